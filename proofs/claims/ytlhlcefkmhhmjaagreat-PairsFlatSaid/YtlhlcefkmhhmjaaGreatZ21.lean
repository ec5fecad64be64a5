/- Packages fresnel, lambert, oren, micro, pairs: straight lines. What the laws of layer 13 ask. vndf.Draw, plain: what its rows tell where there is no error. vec.Unit, plain: the unit vector of a triple above the horizon. VndfTurned, plain: what is rounded has one answer. Two lines of interval arithmetic side by side: each row of the one is a row of the other, or that turned; found by looking. What mirrors of a leaf send, plain: no errors, the same both ways, points. -/
import Derived.Test.YtlhlcefkmhhmjaaGreatZ20
namespace Bu
set_option linter.all false
open Rx Go

def four64 : F := toF 4616189618054758400
def three64 : F := toF 4613937818241073152
def minIo : F := toF 4607463893776728064
def minMt : F := toF 4589168020290535424
def maxMt : F := toF 4625196817309499392
/-- of n, c -/
def frD : List Op := [.num (one64), .sqr 2, .sub 0 1, .sqr 3, .add 1 0, .sqrt 0, .sub 0 6, .add 1 7, .div 1 0, .sqr 0, .add 4 10, .mul 11 0, .sub 0 11, .sub 7 13, .mul 14 0, .add 0 14, .div 3 0, .sqr 0, .num (q2), .mul 0 9, .add 19 2, .mul 1 0, .kept z64 one64 0]
/-- of k, eta, c -/
def frC : List Op := [.num (q2), .sqr 1, .num (one64), .sub 0 1, .kept z64 one64 0, .sqr 6, .sqr 8, .sub 1 0, .sub 0 3, .sqr 0, .num (four64), .mul 5 4, .mul 1 0, .add 3 0, .sqrt 0, .add 0 6, .num (z64), .max 1 0, .mul 17 0, .sqrt 0, .add 5 18, .num (two64), .mul 0 2, .mul 0 23, .sub 3 0, .add 4 1, .div 1 0, .kept z64 one64 0, .mul 26 13, .sqr 24, .add 1 0, .mul 7 26, .sub 1 0, .add 2 1, .div 1 0, .mul 7 0, .kept z64 one64 0, .add 9 0, .mul 37 0]
/-- of X, Y, Z, U, V, W -/
def miH : List Op := [.add 5 2, .add 5 2, .add 5 2, .sqr 2, .sqr 2, .add 1 0, .sqr 3, .add 1 0, .sqrt 0, .num (q2), .mul 0 1, .kept z64 one64 0, .add 15 12, .div 0 4, .kept z64 one64 0]
/-- of Z, W, d, both, one -/
def miV : List Op := [.num (four64), .mul 3 2, .mul 1 6, .mul 0 6, .div 2 0, .mul 5 7, .mul 5 9, .div 1 0]
/-- of al, c, d -/
def gg2 : List Op := [.sqr 2, .num (one64), .sqr 3, .num (one64), .sub 0 1, .div 0 2, .num (q2), .num (one64), .mul 7 2, .add 1 0, .sqrt 0, .num (one64), .sub 1 0, .mul 6 0, .hid 0, .add 13 0, .sqr 16, .num (one64), .sub 0 1, .div 0 2, .num (q2), .num (one64), .mul 21 2, .add 1 0, .sqrt 0, .num (one64), .sub 1 0, .mul 6 0, .hid 0, .add 13 0, .num (one64), .div 0 1]
/-- of rho -/
def lbV : List Op := [.lit (PIc), .div 1 0]
/-- of sigma -/
def orP : List Op := [.lit (PIc), .num (two64), .num (one64), .div 2 1, .num (three64), .div 3 0, .sub 2 0, .mul 0 7, .add 7 0, .div 6 0, .mul 10 0]
def bz1 : I := ⟨z64, one64⟩
def bn : I := ⟨minIo, four64⟩
def bm : I := ⟨minMt, maxMt⟩
def bal : I := ⟨toF 4584664420663164928, one64⟩
def b11 : I := ⟨mone64, one64⟩
def bzz : I := ⟨toF 4575657221408423936, one64⟩
set_option maxRecDepth 100000 in
theorem boxes_q : (evalK KkR frD [bz1, bn] 0).2 = 0 ∧ (evalK KkR miH [bzz, b11, b11, bzz, b11, b11] 0).2 = 0 ∧ (evalK KkR gg2 [bzz, bzz, bal] 0).2 = 0 ∧ (evalK KkR orP [bz1] 0).2 = 0 ∧ (evalK KkR lbV [bz1] 0).2 = 0 := by decide +kernel
/-- what half, lean may be -/
def bhf : I := gt (evalK KkR miH [bzz, b11, b11, bzz, b11, b11] 0).1 3
def bln : I := gt (evalK KkR miH [bzz, b11, b11, bzz, b11, b11] 0).1 0
def bD : I := gt (evalK KkR ggD [bln, bal] 0).1 0
def bG2 : I := gt (evalK KkR gg2 [bzz, bzz, bal] 0).1 0
def bG1 : I := gt (evalK KkR gg1 [bzz, bal] 0).1 0
def bfD : I := gt (evalK KkR frD [bhf, bn] 0).1 0
def bfC : I := gt (evalK KkR frC [bhf, bm, bm] 0).1 0
set_option maxRecDepth 100000 in
theorem boxes_c : (evalK KkR frC [bhf, bm, bm] 0).2 = 0 ∧ (evalK KkR frD [bhf, bn] 0).2 = 0 ∧ (evalK KkR ggD [bln, bal] 0).2 = 0 ∧ (evalK KkR gg1 [bzz, bal] 0).2 = 0 ∧ (evalK KkR miV [bG1, bG2, bD, bzz, bzz] 0).2 = 0 ∧ F.zero.k < (gt (evalK KkR miV [bG1, bG2, bD, bzz, bzz] 0).1 0).lo.k ∧ 0 ≤ (gt (evalK KkR miV [bG1, bG2, bD, bzz, bzz] 0).1 3).lo.k := by decide +kernel
end Bu
namespace Bu
set_option linter.all false
open Rx Go

def zI : I := pt (toF 0)
def upV : V3 := ⟨zI, zI, pt one64⟩
/-- a direction by numbers -/
def d64 : F := toF 4580160821035794432
end Bu
namespace Bu
set_option linter.all false
open Rx Go

theorem p_add {i j : Nat} {v : List I} {r : I} {x y : Rat} (h : Fact (.add i j) v r) (hx : Mem (gt v i) x) (hy : Mem (gt v j) y) : Mem r (x + y) := add_mem h.1 h.2 hx hy
theorem p_sub {i j : Nat} {v : List I} {r : I} {x y : Rat} (h : Fact (.sub i j) v r) (hx : Mem (gt v i) x) (hy : Mem (gt v j) y) : Mem r (x - y) := sub_mem h.1 h.2 hx hy
theorem p_mul {i j : Nat} {v : List I} {r : I} {x y : Rat} (h : Fact (.mul i j) v r) (hx : Mem (gt v i) x) (hy : Mem (gt v j) y) : Mem r (x * y) := mul_mem h hx hy
theorem p_div {i j : Nat} {v : List I} {r : I} {x y : Rat} (h : Fact (.div i j) v r) (hx : Mem (gt v i) x) (hy : Mem (gt v j) y) : Mem r (x / y) := div_in hy.rt h.1 h.2 hx hy
theorem p_num {x : F} {v : List I} {r : I} {q : Rat} (h : Fact (.num x) v r) (e : x.q = q) : Mem r q := by rw [show r = _ from h, ← e]; exact ⟨Rat.le_refl, Rat.le_refl⟩
theorem p_lit {a : I} {v : List I} {r : I} {q : Rat} (h : Fact (.lit a) v r) (e : Mem a q) : Mem r q := by rw [show r = _ from h]; exact e
theorem p_kept {i : Nat} {l u : F} {v : List I} {r : I} {x : Rat} (h : Fact (.kept l u i) v r) (hx : Mem (gt v i) x) (h0 : l.q ≤ x) (h1 : x ≤ u.q) : Mem r x := by
  rw [show r = _ from h]
  have a := hx.lo; have b := hx.hi
  constructor
  · show (mnF (mxF _ _) _).q ≤ _
    rcases mnF_or (mxF (gt v i).lo l) u with e | e
    · rw [e]
      rcases mxF_or (gt v i).lo l with e | e <;> rw [e] <;> grind
    · have := (mnF_q (mxF (gt v i).lo l) u).1
      rcases mxF_or (gt v i).lo l with e2 | e2 <;> rw [e2] at this e ⊢ <;> (have := (mnF_q (mxF (gt v i).lo l) u).1; grind)
  · show _ ≤ (mnF (mxF _ _) _).q
    rcases mnF_or (mxF (gt v i).hi l) u with e | e
    · rw [e]
      have := (mxF_q (gt v i).hi l).1
      grind
    · rw [e]; exact h1
end Bu
namespace Bu
set_option linter.all false
open Rx Go

theorem sqrt_mk {a : I} (hr : rt a = true) (h0 : 0 ≤ a.lo.q) : ∃ r, cSqrt qSqrt 0 a = (r, 0) ∧ rt r = true ∧ SqD r.lo a.lo ∧ SqU r.hi a.hi := by
  have l := rt_le hr
  obtain ⟨x, e1, s1⟩ := (qSqrt_gen h0).1
  obtain ⟨y, e2, s2⟩ := (qSqrt_gen (a := a.hi) (by grind)).2
  refine ⟨⟨x, y⟩, ?_, sq_rt (r := ⟨x, y⟩) hr h0 s1 s2, s1, s2⟩
  unfold cSqrt
  rw [e1, e2, ends_mk rfl rfl, ask_mk hr rfl]
theorem quot_bd {x y d M : Rat} (hd : 0 < d) (hy : d ≤ y) (h1 : -(M * d) ≤ x) (h2 : x ≤ M * d) (hM : 0 ≤ M) : -M ≤ x / y ∧ x / y ≤ M := by
  have y0 : 0 < y := by grind
  have e : x / y * y = x := Rat.div_mul_cancel (by grind)
  have k := Rat.mul_nonneg hM (show 0 ≤ y - d by grind)
  generalize x / y = q at *
  constructor
  · refine Rat.le_of_mul_le_mul_right (c := y) ?_ y0
    grind
  · refine Rat.le_of_mul_le_mul_right (c := y) ?_ y0
    grind
theorem div_mk {a b : I} (ha : rt a = true) (hb : rt b = true) (h0 : 0 < b.lo.q) (h1 : -(9007199254740992 * b.lo.q) ≤ a.lo.q) (h2 : a.hi.q ≤ 9007199254740992 * b.lo.q) :
    ∃ r, cDiv pDiv 0 a b = (r, 0) ∧ AllR r (a.lo.q / b.lo.q) (a.lo.q / b.hi.q) (a.hi.q / b.lo.q) (a.hi.q / b.hi.q) := by
  have la := rt_le ha; have lb := rt_le hb
  have z : hasB b F.zero = false := by
    unfold hasB
    rw [hb, Bool.true_and, Bool.and_eq_false_iff, decide_eq_false_iff_not, decide_eq_false_iff_not]
    left; intro k; have := q_le.2 k; rw [q_zero] at this; grind
  obtain ⟨c, hc⟩ := low_ex
  obtain ⟨d, hd⟩ := big_ex
  have p1 := quot_bd (x := a.lo.q) (y := b.lo.q) h0 Rat.le_refl h1 (by grind) (by grind)
  have p2 := quot_bd (x := a.lo.q) (y := b.hi.q) h0 lb h1 (by grind) (by grind)
  have p3 := quot_bd (x := a.hi.q) (y := b.lo.q) h0 Rat.le_refl (by grind) h2 (by grind)
  have p4 := quot_bd (x := a.hi.q) (y := b.hi.q) h0 lb (by grind) h2 (by grind)
  obtain ⟨r, e, hr, _⟩ := all_has (div_four (a := a) hb z) (c := c) (d := d) (by rw [hc]; exact p1.1) (by rw [hc]; exact p2.1) (by rw [hc]; exact p3.1) (by rw [hc]; exact p4.1) (by rw [hd]; exact p1.2) (by rw [hd]; exact p2.2) (by rw [hd]; exact p3.2) (by rw [hd]; exact p4.2)
  refine ⟨r, ?_, hr⟩
  unfold cDiv
  rw [z, cond_false, e, ask_mk (by rw [ha, hb]; rfl) rfl]
theorem fl_ex (m : Int) (s : Nat) (hm : m.natAbs ≤ 9007199254740992) (hs : s ≤ 900) (w : Rat) (hw : ((2 ^ s : Nat) : Rat) * w = m) : ∃ c : F, c.q = w := by
  obtain ⟨c, hc⟩ := grid m hm s (by omega) (by omega)
  refine ⟨c, ?_⟩
  have hp := pow_q s
  generalize ((2 ^ s : Nat) : Rat) = p at *
  have : (c.q - w) * p = 0 := by grind
  rcases Rat.mul_eq_zero.1 this with e | e <;> grind
/-- a direction above the horizon -/
structure OneP (v : V3) : Prop where
  x : In1 v.x
  y : In1 v.y
  z : In1 v.z
  up : 1 / 128 ≤ v.z.lo.q
theorem pt_in {x : F} (h : N1 x) : In1 (pt x) := ⟨q_le.1 (by rw [mone_q]; exact h.lo), q_le.1 (by rw [one_q]; exact h.hi), Int.le_refl _⟩
theorem un_okE {x y z : F} (hx : N1 x) (hy : N1 y) (z0 : 1 / 64 ≤ z.q) (z1 : z.q ≤ 1) : (unE KkR x y z).2 = 0 ∧ OneP (unV KkR x y z) := by
  have hz : N1 z := ⟨by grind, z1⟩
  have ix := pt_in hx; have iy := pt_in hy; have iz := pt_in hz
  obtain ⟨qx, e1, a1, m1⟩ := sqr_in ix
  obtain ⟨qy, e2, a2, m2⟩ := sqr_in iy
  obtain ⟨s1, e3, d3, u3⟩ := cAdd_ok a1.sm a2.sm
  obtain ⟨qz, e4, a4, m4⟩ := sqr_in iz
  have l1 := a1.lo; have h1 := a1.hi; have r1 := a1.rt; have l2 := a2.lo; have h2 := a2.hi; have r2 := a2.rt
  obtain ⟨f2, g2⟩ := fl_ex 2 0 (by decide) (by decide) 2 (by decide +kernel)
  obtain ⟨f4, g4⟩ := fl_ex 4 0 (by decide) (by decide) 4 (by decide +kernel)
  have s1lo : 0 ≤ s1.lo.q := dn_nn d3 (by grind)
  have s1hi : s1.hi.q ≤ 2 := by have := u3.bot f2 (by rw [g2]; grind); rwa [g2] at this
  have s1rt : s1.lo.q ≤ s1.hi.q := by have := d3.le; have := u3.ge; grind
  have s1sm : Sm s1 := ⟨by grind, s1rt, by grind⟩
  obtain ⟨s2, e5, d5, u5⟩ := cAdd_ok s1sm a4.sm
  obtain ⟨f12, g12⟩ := fl_ex 1 12 (by decide) (by decide) (1 / 4096) (by decide +kernel)
  obtain ⟨f6, g6⟩ := fl_ex 1 6 (by decide) (by decide) (1 / 64) (by decide +kernel)
  obtain ⟨f7, g7⟩ := fl_ex 1 7 (by decide) (by decide) (1 / 128) (by decide +kernel)
  -- the square of z
  have qzlo : 1 / 4096 ≤ qz.lo.q := by
    obtain ⟨r, e, d, _⟩ := cSqr_ok iz.sm
    have e' : cSqr dMul 0 (pt z) = (qz, 0) := e4
    rw [e'] at e
    obtain rfl : qz = r := congrArg Prod.fst e
    have b := bare_ends (a := pt z) (decide_eq_true (Int.le_refl _))
    have hb : (bareI (pt z)).lo.q * (bareI (pt z)).lo.q = z.q * z.q := by
      rcases b.1 with k | k
      · have a := k.lo; have c := k.hi
        have : (bareI (pt z)).lo.q = z.q := by have : (pt z).lo.q = z.q := rfl; have : (pt z).hi.q = z.q := rfl; grind
        rw [this]
      · have a := k.lo; have c := k.hi
        have : -(bareI (pt z)).lo.q = z.q := by have : (pt z).lo.q = z.q := rfl; have : (pt z).hi.q = z.q := rfl; grind
        grind
    rw [hb] at d
    rw [← g12]
    refine d.top f12 ?_
    rw [g12]
    have := sq_bd (x := 1 / 64) (m := z.q) (by grind) z0
    grind
  have l4 := a4.lo; have h4 := a4.hi; have r4 := a4.rt
  have s2lo : 1 / 4096 ≤ s2.lo.q := by have := d5.top f12 (by rw [g12]; grind); rwa [g12] at this
  have s2hi : s2.hi.q ≤ 4 := by have := u5.bot f4 (by rw [g4]; grind); rwa [g4] at this
  have s2rt : s2.lo.q ≤ s2.hi.q := by have := d5.le; have := u5.ge; grind
  obtain ⟨nn, e6, r6, d6, u6⟩ := sqrt_mk (rt_q s2rt) (by grind)
  have nlo : 1 / 64 ≤ nn.lo.q := by have := d6.top f6 (by rw [g6]; grind) (by rw [g6]; grind); rwa [g6] at this
  have nhi : nn.hi.q ≤ 2 := by have := u6.bot f2 (by rw [g2]; grind) (by rw [g2]; grind); rwa [g2] at this
  have nrt := rt_le r6
  have pr : ∀ w : F, rt (pt w) = true := fun w => decide_eq_true (Int.le_refl _)
  have bd : ∀ {w : F}, N1 w → -(9007199254740992 * nn.lo.q) ≤ (pt w).lo.q ∧ (pt w).hi.q ≤ 9007199254740992 * nn.lo.q := by
    intro w hw
    have a := hw.lo; have b := hw.hi
    have : (pt w).lo.q = w.q := rfl
    have : (pt w).hi.q = w.q := rfl
    constructor <;> grind
  obtain ⟨dx, e7, _⟩ := div_mk (pr x) r6 (by grind) (bd hx).1 (bd hx).2
  obtain ⟨dy, e8, _⟩ := div_mk (pr y) r6 (by grind) (bd hy).1 (bd hy).2
  obtain ⟨dz, e9, h9⟩ := div_mk (pr z) r6 (by grind) (bd hz).1 (bd hz).2
  have hE : unE KkR x y z = ([withI dz, dz, withI dy, dy, withI dx, dx, nn, s2, qz, s1, qy, qx, pt z, pt y, pt x], 0) := by
    unfold unE unP
    refine (eval_cons (r := pt x) (e' := 0) ?_).trans ?_
    · exact rfl
    refine (eval_cons (r := pt y) (e' := 0) ?_).trans ?_
    · exact rfl
    refine (eval_cons (r := pt z) (e' := 0) ?_).trans ?_
    · exact rfl
    refine (eval_cons (r := qx) (e' := 0) ?_).trans ?_
    · exact e1
    refine (eval_cons (r := qy) (e' := 0) ?_).trans ?_
    · exact e2
    refine (eval_cons (r := s1) (e' := 0) ?_).trans ?_
    · exact e3
    refine (eval_cons (r := qz) (e' := 0) ?_).trans ?_
    · exact e4
    refine (eval_cons (r := s2) (e' := 0) ?_).trans ?_
    · exact e5
    refine (eval_cons (r := nn) (e' := 0) ?_).trans ?_
    · exact e6
    refine (eval_cons (r := dx) (e' := 0) ?_).trans ?_
    · exact e7
    refine (eval_cons (r := withI dx) (e' := 0) ?_).trans ?_
    · exact rfl
    refine (eval_cons (r := dy) (e' := 0) ?_).trans ?_
    · exact e8
    refine (eval_cons (r := withI dy) (e' := 0) ?_).trans ?_
    · exact rfl
    refine (eval_cons (r := dz) (e' := 0) ?_).trans ?_
    · exact e9
    refine (eval_cons (r := withI dz) (e' := 0) ?_).trans ?_
    · exact rfl
    rfl
  have hV : unV KkR x y z = ⟨withI dx, withI dy, withI dz⟩ := by unfold unV; rw [hE]; rfl
  rw [hV]
  refine ⟨by rw [hE], withI_in _, withI_in _, withI_in _, ?_⟩
  -- z by the length
  have pz : (pt z).lo.q = z.q ∧ (pt z).hi.q = z.q := ⟨rfl, rfl⟩
  have low : ∀ {w : Rat}, nn.lo.q ≤ w → w ≤ nn.hi.q → 1 / 128 ≤ z.q / w := by
    intro w w0 w1
    have e : z.q / w * w = z.q := Rat.div_mul_cancel (by grind)
    generalize z.q / w = t at *
    apply Rat.not_lt.1
    intro g
    have := Rat.mul_pos (show 0 < 1 / 128 - t by grind) (show 0 < w by grind)
    grind
  have dzlo : 1 / 128 ≤ dz.lo.q := by
    rw [← g7]
    have a := low Rat.le_refl nrt
    have b := low nrt Rat.le_refl
    refine h9.top ?_ ?_ ?_ ?_ <;> (rw [g7]; simp only [pz.1, pz.2]; assumption)
  have zn : z.q ≤ nn.hi.q := by
    refine sq_le' (by grind) (by grind) ?_
    have a := u6.ge
    have b := (m4 z.q ⟨Rat.le_refl, Rat.le_refl⟩).hi
    have c := u5.ge
    grind
  have top : z.q / nn.hi.q ≤ 1 := by
    have e : z.q / nn.hi.q * nn.hi.q = z.q := Rat.div_mul_cancel (by grind)
    generalize z.q / nn.hi.q = t at *
    apply Rat.not_lt.1
    intro g
    have := Rat.mul_pos (show 0 < t - 1 by grind) (show 0 < nn.hi.q by grind)
    grind
  have mz : Mem dz (z.q / nn.hi.q) := ⟨by have := h9.lo.2.1; simpa only [pz.1] using this, by have := h9.hi.2.1; simpa only [pz.1] using this⟩
  have b := low nrt Rat.le_refl
  show 1 / 128 ≤ (withI dz).lo.q
  rw [withI_eq mz (by grind) top]
  exact Rat.le_trans dzlo (mxF_q _ _).1
theorem un_ok {x y z : F} (hx : N1 x) (hy : N1 y) (z0 : 1 / 64 ≤ z.q) (z1 : z.q ≤ 1) : OneP (unV KkR x y z) := (un_okE hx hy z0 z1).2
theorem un_B {x y z : F} (hx : N1 x) (hy : N1 y) (z0 : 1 / 64 ≤ z.q) (z1 : z.q ≤ 1) : unB x y z = true := by
  have kt : decide (tiny64.k ≤ d64.k) = true := by decide +kernel
  have kh : decide (one64.k ≤ huge64.k) = true := by decide +kernel
  have kd : d64.q * 64 = 1 := q_of' (n := 1) (s := 6) (by decide +kernel) rfl
  have k1 := of_decide_eq_true kt
  have k2 := of_decide_eq_true kh
  have ab : ∀ {w : F}, N1 w → w.abs.k ≤ one64.k := by
    intro w hw
    have a := q_le.1 (show w.q ≤ one64.q by rw [one_q]; exact hw.hi)
    have b := q_le.1 (show mone64.q ≤ w.q by rw [mone_q]; exact hw.lo)
    have c : mone64.k = -one64.k := by decide +kernel
    show ((w.k.natAbs : Nat) : Int) ≤ _
    omega
  have z2 : d64.k ≤ z.abs.k := by
    have a := q_le.1 (show d64.q ≤ z.q by grind)
    show _ ≤ ((z.k.natAbs : Nat) : Int)
    omega
  have a := ab hx; have b := ab hy; have c := ab (w := z) ⟨by grind, z1⟩
  unfold unB mostF
  have e : (mxF (mxF x.abs y.abs) z.abs).k = max (max x.abs.k y.abs.k) z.abs.k := by rw [mxF_k, mxF_k]
  rw [e, Bool.and_eq_true, Bool.not_eq_true', Bool.not_eq_true', decide_eq_false_iff_not, decide_eq_false_iff_not]
  constructor <;> omega
end Bu
namespace Bu
set_option linter.all false
open Rx Go

theorem Dn.one {r s : F} {v : Rat} (h : Dn r v) (k : Dn s v) : r = s := by
  have a := h.top _ k.le; have b := k.top _ h.le
  exact q_inj (by grind)
theorem Up.one {r s : F} {v : Rat} (h : Up r v) (k : Up s v) : r = s := by
  have a := h.bot _ k.ge; have b := k.bot _ h.ge
  exact q_inj (by grind)
theorem RD.one {v : Rat} {p s : F × Int} (h : RD v p) (k : RD v s) : p.2 = s.2 ∧ (p.2 = 0 → p.1 = s.1) := by
  rcases h with ⟨a, b⟩ | ⟨a, b⟩ <;> rcases k with ⟨c, d⟩ | ⟨c, d⟩
  · exact ⟨by rw [a, c], fun _ => b.one d⟩
  · exact absurd (d p.1) (by have := b.le; grind)
  · exact absurd (b s.1) (by have := d.le; grind)
  · exact ⟨by rw [a, c], fun h => by rw [a] at h; exact absurd h (by decide)⟩
theorem RU.one {v : Rat} {p s : F × Int} (h : RU v p) (k : RU v s) : p.2 = s.2 ∧ (p.2 = 0 → p.1 = s.1) := by
  rcases h with ⟨a, b⟩ | ⟨a, b⟩ <;> rcases k with ⟨c, d⟩ | ⟨c, d⟩
  · exact ⟨by rw [a, c], fun _ => b.one d⟩
  · exact absurd (d p.1) (by have := b.ge; grind)
  · exact absurd (b s.1) (by have := d.ge; grind)
  · exact ⟨by rw [a, c], fun h => by rw [a] at h; exact absurd h (by decide)⟩
theorem SqD.one {r s a : F} (h : SqD r a) (k : SqD s a) : r = s := by
  have a := h.top _ k.nn k.le; have b := k.top _ h.nn h.le
  exact q_inj (by grind)
theorem SqU.one {r s a : F} (h : SqU r a) (k : SqU s a) : r = s := by
  have a := h.bot _ k.nn k.ge; have b := k.bot _ h.nn h.ge
  exact q_inj (by grind)
/-- the other way round, turned -/
theorem Dn.turn {r : F} {v : Rat} (h : Dn r v) : Up r.neg (-v) := by
  refine ⟨by rw [q_neg]; have := h.le; grind, fun c hc => ?_⟩
  have := h.top c.neg (by rw [q_neg]; grind)
  rw [q_neg] at this ⊢; grind
theorem Up.turn {r : F} {v : Rat} (h : Up r v) : Dn r.neg (-v) := by
  refine ⟨by rw [q_neg]; have := h.ge; grind, fun c hc => ?_⟩
  have := h.bot c.neg (by rw [q_neg]; grind)
  rw [q_neg] at this ⊢; grind
theorem I.one {a b : I} (h1 : a.lo = b.lo) (h2 : a.hi = b.hi) : a = b := by cases a; cases b; simp only at h1 h2; subst h1; subst h2; rfl
theorem AllR.one {r u : I} {p q s t p' q' s' t' : Rat} (h : AllR r p q s t) (k : AllR u p' q' s' t')
    (hp : (p' = p ∨ p' = q ∨ p' = s ∨ p' = t) ∧ (q' = p ∨ q' = q ∨ q' = s ∨ q' = t) ∧ (s' = p ∨ s' = q ∨ s' = s ∨ s' = t) ∧ (t' = p ∨ t' = q ∨ t' = s ∨ t' = t))
    (hk : (p = p' ∨ p = q' ∨ p = s' ∨ p = t') ∧ (q = p' ∨ q = q' ∨ q = s' ∨ q = t') ∧ (s = p' ∨ s = q' ∨ s = s' ∨ s = t') ∧ (t = p' ∨ t = q' ∨ t = s' ∨ t = t')) : r = u := by
  obtain ⟨a1, a2, a3, a4⟩ := h.lo; obtain ⟨b1, b2, b3, b4⟩ := h.hi
  obtain ⟨c1, c2, c3, c4⟩ := k.lo; obtain ⟨d1, d2, d3, d4⟩ := k.hi
  have e1 : ∀ x, (x = p ∨ x = q ∨ x = s ∨ x = t) → r.lo.q ≤ x ∧ x ≤ r.hi.q := by rintro x (rfl | rfl | rfl | rfl) <;> exact ⟨by assumption, by assumption⟩
  have e2 : ∀ x, (x = p' ∨ x = q' ∨ x = s' ∨ x = t') → u.lo.q ≤ x ∧ x ≤ u.hi.q := by rintro x (rfl | rfl | rfl | rfl) <;> exact ⟨by assumption, by assumption⟩
  obtain ⟨p1, p2, p3, p4⟩ := hp; obtain ⟨k1, k2, k3, k4⟩ := hk
  have f1 := k.top (e1 _ p1).1 (e1 _ p2).1 (e1 _ p3).1 (e1 _ p4).1
  have f2 := h.top (e2 _ k1).1 (e2 _ k2).1 (e2 _ k3).1 (e2 _ k4).1
  have g1 := k.bot (e1 _ p1).2 (e1 _ p2).2 (e1 _ p3).2 (e1 _ p4).2
  have g2 := h.bot (e2 _ k1).2 (e2 _ k2).2 (e2 _ k3).2 (e2 _ k4).2
  exact I.one (q_inj (by grind)) (q_inj (by grind))
theorem turn_q (a : I) : (turnI a).lo.q = -a.hi.q ∧ (turnI a).hi.q = -a.lo.q := ⟨q_neg _, q_neg _⟩
theorem AllR.turn {r : I} {p q s t : Rat} (h : AllR r p q s t) : AllR (turnI r) (-p) (-q) (-s) (-t) := by
  obtain ⟨a1, a2, a3, a4⟩ := h.lo; obtain ⟨b1, b2, b3, b4⟩ := h.hi
  obtain ⟨e1, e2⟩ := turn_q r
  refine ⟨⟨by grind, by grind, by grind, by grind⟩, ⟨by grind, by grind, by grind, by grind⟩, ?_, ?_⟩
  · rcases h.hiE with k | k | k | k
    · exact .inl k.turn
    · exact .inr (.inl k.turn)
    · exact .inr (.inr (.inl k.turn))
    · exact .inr (.inr (.inr k.turn))
  · rcases h.loE with k | k | k | k
    · exact .inl k.turn
    · exact .inr (.inl k.turn)
    · exact .inr (.inr (.inl k.turn))
    · exact .inr (.inr (.inr k.turn))
section
variable {v w : List I} {i j i' j' : Nat} {r u : I}
theorem s_add (h : Fact (.add i j) v r) (k : Fact (.add i' j') w u) (a : gt w i' = gt v i) (b : gt w j' = gt v j) : u = r := by
  have k1 := k.1; have k2 := k.2
  rw [a, b] at k1 k2
  exact I.one (k1.one h.1) (k2.one h.2)
theorem s_add_c (h : Fact (.add i j) v r) (k : Fact (.add i' j') w u) (a : gt w i' = gt v j) (b : gt w j' = gt v i) : u = r := by
  have k1 := k.1; have k2 := k.2
  rw [a, b, Rat.add_comm] at k1 k2
  exact I.one (k1.one h.1) (k2.one h.2)
theorem s_add_t (h : Fact (.add i j) v r) (k : Fact (.add i' j') w u) (a : gt w i' = turnI (gt v i)) (b : gt w j' = turnI (gt v j)) : u = turnI r := by
  have k1 := k.1; have k2 := k.2
  obtain ⟨e1, e2⟩ := turn_q (gt v i); obtain ⟨e3, e4⟩ := turn_q (gt v j)
  rw [a, b, e1, e3, show ∀ x y : Rat, -x + -y = -(x + y) from fun x y => by grind] at k1
  rw [a, b, e2, e4, show ∀ x y : Rat, -x + -y = -(x + y) from fun x y => by grind] at k2
  exact I.one (k1.one h.2.turn) (k2.one h.1.turn)
theorem s_sub_t (h : Fact (.sub i j) v r) (k : Fact (.sub i' j') w u) (a : gt w i' = gt v j) (b : gt w j' = gt v i) : u = turnI r := by
  have k1 := k.1; have k2 := k.2
  rw [a, b, show ∀ x y : Rat, x - y = -(y - x) from fun x y => by grind] at k1 k2
  exact I.one (k1.one h.2.turn) (k2.one h.1.turn)
theorem s_sub_c (h : Fact (.sub i j) v r) (k : Fact (.sub i' j') w u) (a : gt w i' = turnI (gt v j)) (b : gt w j' = turnI (gt v i)) : u = r := by
  have k1 := k.1; have k2 := k.2
  obtain ⟨e1, e2⟩ := turn_q (gt v i); obtain ⟨e3, e4⟩ := turn_q (gt v j)
  rw [a, b, e2, e3, show ∀ x y : Rat, -y - -x = x - y from fun x y => by grind] at k1
  rw [a, b, e1, e4, show ∀ x y : Rat, -y - -x = x - y from fun x y => by grind] at k2
  exact I.one (k1.one h.1) (k2.one h.2)
theorem s_mul (h : Fact (.mul i j) v r) (k : Fact (.mul i' j') w u) (a : gt w i' = gt v i) (b : gt w j' = gt v j) : u = r := by
  have k1 : AllR u _ _ _ _ := k
  rw [a, b] at k1
  exact k1.one h (by simp) (by simp)
theorem s_mul_t (h : Fact (.mul i j) v r) (k : Fact (.mul i' j') w u) (a : gt w i' = gt v i) (b : gt w j' = turnI (gt v j)) : u = turnI r := by
  have k1 : AllR u _ _ _ _ := k
  obtain ⟨e3, e4⟩ := turn_q (gt v j)
  rw [a, b, e3, e4, Rat.mul_neg, Rat.mul_neg, Rat.mul_neg, Rat.mul_neg] at k1
  exact k1.one (AllR.turn h) (by simp) (by simp)
theorem s_div (h : Fact (.div i j) v r) (k : Fact (.div i' j') w u) (a : gt w i' = gt v i) (b : gt w j' = gt v j) : u = r := by
  have k1 : AllR u _ _ _ _ := k.2
  rw [a, b] at k1
  exact k1.one h.2 (by simp) (by simp)
theorem neg_div' (x y : Rat) : -x / y = -(x / y) := by rw [Rat.div_def, Rat.div_def, Rat.neg_mul]
theorem s_div_t (h : Fact (.div i j) v r) (k : Fact (.div i' j') w u) (a : gt w i' = turnI (gt v i)) (b : gt w j' = gt v j) : u = turnI r := by
  have k1 : AllR u _ _ _ _ := k.2
  obtain ⟨e3, e4⟩ := turn_q (gt v i)
  rw [a, b, e3, e4, neg_div', neg_div', neg_div', neg_div'] at k1
  exact k1.one (AllR.turn h.2) (by simp) (by simp)
theorem s_sqrt (h : Fact (.sqrt i) v r) (k : Fact (.sqrt i') w u) (a : gt w i' = gt v i) : u = r := by
  have k1 := k.2.1; have k2 := k.2.2
  rw [a] at k1 k2
  exact I.one (k1.one h.2.1) (k2.one h.2.2)
theorem s_sqr (h : Fact (.sqr i) v r) (k : Fact (.sqr i') w u) (a : gt w i' = gt v i) : u = r := by
  have k1 := k.1; have k2 := k.2
  rw [a] at k1 k2
  exact I.one (k1.one h.1) (k2.one h.2)
theorem s_max (h : Fact (.max i j) v r) (k : Fact (.max i' j') w u) (a : gt w i' = gt v i) (b : gt w j' = gt v j) : u = r := by
  have k1 : u = _ := k
  rw [a, b] at k1
  exact k1.trans (Eq.symm h)
theorem s_kept {l m : F} (h : Fact (.kept l m i) v r) (k : Fact (.kept l m i') w u) (a : gt w i' = gt v i) : u = r := by
  have k1 : u = _ := k
  rw [a] at k1
  exact k1.trans (Eq.symm h)
theorem bare_turn {a : I} (hr : a.lo.k ≤ a.hi.k) : bareI (turnI a) = bareI a := by
  have e1 : (turnI a).lo.k = -a.hi.k := F.neg_k _
  have e2 : (turnI a).hi.k = -a.lo.k := F.neg_k _
  have z : F.zero.k = 0 := rfl
  refine I.one (F.ext' ?_) (F.ext' ?_)
  · unfold bareI
    by_cases c1 : 0 ≤ a.lo.k <;> by_cases c2 : a.hi.k ≤ 0 <;> by_cases c3 : 0 ≤ (turnI a).lo.k <;> by_cases c4 : (turnI a).hi.k ≤ 0 <;>
      simp only [c1, c2, c3, c4, decide_true, decide_false, cond_true, cond_false] <;> first | rfl | (simp only [turnI, F.neg_k] at *; omega)
  · unfold bareI
    by_cases c1 : 0 ≤ a.lo.k <;> by_cases c2 : a.hi.k ≤ 0 <;> by_cases c3 : 0 ≤ (turnI a).lo.k <;> by_cases c4 : (turnI a).hi.k ≤ 0 <;>
      simp only [c1, c2, c3, c4, decide_true, decide_false, cond_true, cond_false] <;> first | rfl | (simp only [turnI, F.neg_k, mxF_k] at *; omega)
theorem s_sqr_t (h : Fact (.sqr i) v r) (k : Fact (.sqr i') w u) (a : gt w i' = turnI (gt v i)) (hr : (gt v i).lo.k ≤ (gt v i).hi.k) : u = r := by
  have k1 := k.1; have k2 := k.2
  rw [a, bare_turn hr] at k1 k2
  exact I.one (k1.one h.1) (k2.one h.2)
theorem kept_turn (a : I) : keptI (turnI a) mone64 one64 = turnI (keptI a mone64 one64) := by
  have l : mone64.k = -one64.k := by decide +kernel
  have p : 0 ≤ one64.k := by decide +kernel
  refine I.one (F.ext' ?_) (F.ext' ?_) <;> (simp only [keptI, turnI, F.neg_k, mnF_k, mxF_k]; omega)
theorem s_kept_t (h : Fact (.kept mone64 one64 i) v r) (k : Fact (.kept mone64 one64 i') w u) (a : gt w i' = turnI (gt v i)) : u = turnI r := by
  have k1 : u = _ := k
  rw [a, kept_turn] at k1
  exact k1.trans (congrArg turnI (Eq.symm h))
end
end Bu
namespace Bu
set_option linter.all false
open Rx Go

def sgI (s : Bool) (a : I) : I := bif s then turnI a else a
theorem turn_turn (a : I) : turnI (turnI a) = a := I.one (F.ext' (by show (a.lo.neg.neg).k = _; rw [F.neg_k, F.neg_k]; omega)) (F.ext' (by show (a.hi.neg.neg).k = _; rw [F.neg_k, F.neg_k]; omega))
theorem sg_sg (s t : Bool) (a : I) : sgI s (sgI t a) = sgI (s != t) a := by cases s <;> cases t <;> simp [sgI, turn_turn]
/-- all rows tell what they do, of right arguments -/
def ChainR : List Bu.Op → List I → List I → Prop
  | [], v, u => u = v
  | o :: l, v, u => ∃ r, (Fact o v r ∧ ArgsRt o v) ∧ ChainR l (r :: v) u
theorem eval_chainR : ∀ {l : List Bu.Op} {v : List I} {e : Int}, (evalK KkR l v e).2 = 0 → ChainR l v (evalK KkR l v e).1
  | [], _, _, _ => rfl
  | o :: l, v, e, h => by
    have h2 := eval_chainR (l := l) h
    obtain ⟨g1, g3, g2⟩ := step_fact (eval_chain (l := l) h).1
    exact ⟨_, ⟨g2, g3⟩, h2⟩
theorem chain_drop : ∀ {l : List Bu.Op} {v u : List I}, ChainR l v u → u.drop l.length = v
  | [], v, u, h => h
  | o :: l, v, u, ⟨r, _, h⟩ => by
    have := chain_drop h
    rw [show (o :: l).length = l.length + 1 from rfl, ← List.drop_drop, this]; rfl
theorem chain_at : ∀ {l : List Bu.Op} {v u : List I}, ChainR l v u → ∀ {p : Nat} {o : Bu.Op}, l.reverse[p]? = some o → Fact o (u.drop (p + 1)) (gt u p) ∧ ArgsRt o (u.drop (p + 1))
  | [], _, _, _, p, o, h => by simp at h
  | o :: l, v, u, ⟨r, f, h⟩, p, o', hp => by
    rw [List.reverse_cons] at hp
    by_cases k : p < l.reverse.length
    · rw [List.getElem?_append_left k] at hp
      exact chain_at h hp
    · rw [List.getElem?_append_right (by omega)] at hp
      have hl : l.reverse.length = l.length := List.length_reverse
      have d := chain_drop h
      have e : p - l.reverse.length = 0 := by
        cases c : p - l.reverse.length with
        | zero => rfl
        | succ n => rw [c] at hp; simp at hp
      rw [e] at hp
      have pe : p = l.length := by omega
      subst pe
      have eo : o = o' := by simpa using hp
      subst eo
      have e1 : gt u l.length = r := by
        have : (u.drop l.length)[0]? = some r := by rw [d]; rfl
        rw [List.getElem?_drop] at this
        unfold gt
        rw [List.getD_eq_getElem?_getD, show l.length = l.length + 0 from rfl, this]; rfl
      have e2 : u.drop (l.length + 1) = v := by rw [← List.drop_drop, d]; rfl
      rw [e1, e2]; exact f
theorem gt_drop (u : List I) (p i : Nat) : gt (u.drop p) i = gt u (p + i) := by
  unfold gt
  rw [List.getD_eq_getElem?_getD, List.getD_eq_getElem?_getD, List.getElem?_drop]
abbrev Sg := Nat × Bool
def twS (z : Bool) (x : Sg) : Sg := (x.1, z != x.2)
def vS (u : List I) (x : Sg) : I := sgI x.2 (gt u x.1)
theorem vs_tw (u : List I) (z : Bool) (x : Sg) : vS u (twS z x) = sgI z (vS u x) := by unfold vS twS; rw [sg_sg]
/-- of a place: of a turned one that which it turns; of a number the first place that has it -/
def eqF (a b : F) : Bool := decide (a.k = b.k)
theorem eqF_ok {a b : F} (h : eqF a b = true) : a = b := F.ext' (of_decide_eq_true h)
def numAt (x : F) : List Bu.Op → Nat → Option Nat
  | [], _ => none
  | o :: t, p => match o with
    | .num y => bif eqF x y then some p else numAt x t (p + 1)
    | _ => numAt x t (p + 1)
theorem numAt_ok {x : F} {L : List Bu.Op} : ∀ {t : List Bu.Op} {p q : Nat}, (∀ i, t[i]? = L[p + i]?) → numAt x t p = some q → L[q]? = some (.num x)
  | [], _, _, _, h => by cases h
  | o :: t, p, q, ht, h => by
    have h0 : L[p]? = some o := by have := ht 0; simpa using this.symm
    have ih : numAt x t (p + 1) = some q → L[q]? = some (.num x) := numAt_ok (p := p + 1) (fun i => by have := ht (i + 1); rw [show p + 1 + i = p + (i + 1) from by omega, ← this]; rfl)
    unfold numAt at h
    split at h
    · rename_i y
      cases c : eqF x y
      · rw [c] at h; exact ih h
      · rw [c] at h
        have e : p = q := by simpa using h
        subst e
        rw [eqF_ok c]; exact h0
    · exact ih h
def canon (L : List Bu.Op) (p : Nat) : Sg := match L[p]? with
  | some (.neg i) => (p + 1 + i, true)
  | some (.num x) => ((numAt x L 0).getD p, false)
  | _ => (p, false)
theorem canon_ok {l : List Bu.Op} {v u : List I} (h : ChainR l v u) (p : Nat) : vS u (canon l.reverse p) = gt u p := by
  unfold canon
  split
  · rename_i i e
    have f : gt u p = turnI (gt (u.drop (p + 1)) i) := (chain_at h e).1
    rw [f, gt_drop]; rfl
  · rename_i x e
    have f : gt u p = ⟨x, x⟩ := (chain_at h e).1
    show gt u _ = _
    cases c : numAt x l.reverse 0 with
    | none => rfl
    | some q =>
      have f' : gt u q = ⟨x, x⟩ := (chain_at h (numAt_ok (fun i => by rw [Nat.zero_add]) c)).1
      rw [f]; exact f'
  · rfl
def eqI (a b : I) : Bool := eqF a.lo b.lo && eqF a.hi b.hi
theorem eqI_ok {a b : I} (h : eqI a b = true) : a = b := by
  obtain ⟨h1, h2⟩ := both h
  exact I.one (eqF_ok h1) (eqF_ok h2)
def eqS (x y : Sg) : Bool := x.1 == y.1 && x.2 == y.2
theorem eqS_ok {x y : Sg} (h : eqS x y = true) : x = y := by
  obtain ⟨h1, h2⟩ := both h
  exact Prod.ext (by simpa using h1) (by simpa using h2)
/-- is row o' (whose arguments are told by m) row o at place p (of the line L), turned if z? -/
def mate (L : List Bu.Op) (m : List Sg) (o' o : Bu.Op) (p : Nat) (z : Bool) : Bool :=
  let X := fun i => m.getD i (0, false)
  let A := fun i => canon L (p + 1 + i)
  let has := fun i => decide (i < m.length)
  match o', o with
  | .add i j, .add a b => has i && has j && (eqS (X i) (twS z (A a)) && eqS (X j) (twS z (A b)) || eqS (X i) (twS z (A b)) && eqS (X j) (twS z (A a)))
  | .sub i j, .sub a b => has i && has j && (eqS (X i) (twS z (A a)) && eqS (X j) (twS z (A b)) || eqS (X i) (twS (!z) (A b)) && eqS (X j) (twS (!z) (A a)))
  | .mul i j, .mul a b => has i && has j && (eqS (X i) (A a) && eqS (X j) (twS z (A b)) || eqS (X i) (twS true (A a)) && eqS (X j) (twS (!z) (A b)) || eqS (X i) (A b) && eqS (X j) (twS z (A a)) || eqS (X i) (twS true (A b)) && eqS (X j) (twS (!z) (A a)))
  | .div i j, .div a b => has i && has j && eqS (X i) (twS z (A a)) && eqS (X j) (A b)
  | .max i j, .max a b => has i && has j && !z && (eqS (X i) (A a) && eqS (X j) (A b))
  | .sqr i, .sqr a => has i && !z && (eqS (X i) (A a) || eqS (X i) (twS true (A a)))
  | .sqrt i, .sqrt a => has i && !z && eqS (X i) (A a)
  | .num x, .num y => !z && eqF x y
  | .lit x, .lit y => !z && eqI x y
  | .kept l h i, .kept l' h' a => has i && eqF l l' && eqF h h' && (!z && eqS (X i) (A a) || z && eqF l mone64 && eqF h one64 && eqS (X i) (twS true (A a)))
  | .wi i, .wi a => has i && !z && eqS (X i) (A a)
  | .hid i, .hid a => has i && !z && eqS (X i) (A a)
  | _, _ => false
def Rel (m : List Sg) (w u : List I) : Prop := ∀ i, i < m.length → gt w i = vS u (m.getD i (0, false))
theorem s_sub {v w : List I} {i j i' j' : Nat} {r u : I} (h : Fact (.sub i j) v r) (k : Fact (.sub i' j') w u) (a : gt w i' = gt v i) (b : gt w j' = gt v j) : u = r := by
  have k1 := k.1; have k2 := k.2
  rw [a, b] at k1 k2
  exact I.one (k1.one h.1) (k2.one h.2)
theorem s_sub_n {v w : List I} {i j i' j' : Nat} {r u : I} (h : Fact (.sub i j) v r) (k : Fact (.sub i' j') w u) (a : gt w i' = turnI (gt v i)) (b : gt w j' = turnI (gt v j)) : u = turnI r := by
  have k1 := k.1; have k2 := k.2
  obtain ⟨e1, e2⟩ := turn_q (gt v i); obtain ⟨e3, e4⟩ := turn_q (gt v j)
  rw [a, b, e1, e4, show ∀ x y : Rat, -x - -y = -(x - y) from fun x y => by grind] at k1
  rw [a, b, e2, e3, show ∀ x y : Rat, -x - -y = -(x - y) from fun x y => by grind] at k2
  exact I.one (k1.one h.2.turn) (k2.one h.1.turn)
/-- both factors turned, or one of them -/
theorem s_mul_sg {v w : List I} {i j i' j' : Nat} {r u : I} {s t : Bool} (h : Fact (.mul i j) v r) (k : Fact (.mul i' j') w u) (a : gt w i' = sgI s (gt v i)) (b : gt w j' = sgI t (gt v j)) : u = sgI (s != t) r := by
  have k1 : AllR u _ _ _ _ := k
  obtain ⟨e1, e2⟩ := turn_q (gt v i); obtain ⟨e3, e4⟩ := turn_q (gt v j)
  cases s <;> cases t <;> simp only [sgI, cond_false, cond_true] at a b
  · exact s_mul h k a b
  · exact s_mul_t h k a b
  · rw [a, b, e1, e2, Rat.neg_mul, Rat.neg_mul, Rat.neg_mul, Rat.neg_mul] at k1
    exact k1.one (AllR.turn h) (by simp) (by simp)
  · rw [a, b, e1, e2, e3, e4, Rat.neg_mul, Rat.neg_mul, Rat.neg_mul, Rat.neg_mul, Rat.mul_neg, Rat.mul_neg, Rat.mul_neg, Rat.mul_neg, Rat.neg_neg, Rat.neg_neg, Rat.neg_neg, Rat.neg_neg] at k1
    exact k1.one h (by simp) (by simp)
theorem fact_swap {i j : Nat} {v : List I} {r : I} (h : Fact (.mul i j) v r) : Fact (.mul j i) v r := by
  have k : AllR r _ _ _ _ := h
  show AllR r _ _ _ _
  rw [Rat.mul_comm, Rat.mul_comm (gt v i).lo.q (gt v j).hi.q, Rat.mul_comm (gt v i).hi.q (gt v j).lo.q, Rat.mul_comm (gt v i).hi.q] at k
  exact ⟨⟨k.lo.1, k.lo.2.2.1, k.lo.2.1, k.lo.2.2.2⟩, ⟨k.hi.1, k.hi.2.2.1, k.hi.2.1, k.hi.2.2.2⟩, by rcases k.loE with e | e | e | e <;> simp [e], by rcases k.hiE with e | e | e | e <;> simp [e]⟩
theorem add_swap {i j : Nat} {v : List I} {r : I} (h : Fact (.add i j) v r) : Fact (.add j i) v r :=
  ⟨by have := h.1; rwa [Rat.add_comm] at this, by have := h.2; rwa [Rat.add_comm] at this⟩
theorem mate_ok {l : List Bu.Op} {v u w : List I} {m : List Sg} (h : ChainR l v u) (hm : Rel m w u) {o' o : Bu.Op} {p : Nat} {z : Bool} {r : I} (hp : l.reverse[p]? = some o) (hf : Fact o' w r) (hc : mate l.reverse m o' o p z = true) : r = sgI z (gt u p) := by
  obtain ⟨f, ar⟩ := chain_at h hp
  have A : ∀ i, vS u (canon l.reverse (p + 1 + i)) = gt (u.drop (p + 1)) i := fun i => by rw [canon_ok h, gt_drop]
  generalize hL : l.reverse = L at *
  generalize hV : u.drop (p + 1) = V at *
  have T : ∀ {x : Sg} {z : Bool} {i : Nat}, eqS x (twS z (canon L (p + 1 + i))) = true → vS u x = sgI z (gt V i) := fun {x z i} e => by rw [eqS_ok e, vs_tw, A]
  have Z : ∀ {x : Sg} {i : Nat}, eqS x (canon L (p + 1 + i)) = true → vS u x = gt V i := fun {x i} e => by rw [eqS_ok e, A]
  unfold mate at hc
  split at hc <;> simp only [Bool.and_eq_true, Bool.or_eq_true, decide_eq_true_eq, Bool.not_eq_true', and_assoc] at hc
  · obtain ⟨hi, hj, ⟨e1, e2⟩ | ⟨e1, e2⟩⟩ := hc
    · have a := (hm _ hi).trans (T e1); have b := (hm _ hj).trans (T e2)
      cases z
      · exact s_add f hf a b
      · exact s_add_t f hf a b
    · have a := (hm _ hi).trans (T e1); have b := (hm _ hj).trans (T e2)
      cases z
      · exact s_add_c f hf a b
      · exact s_add_t (add_swap f) hf a b
  · obtain ⟨hi, hj, ⟨e1, e2⟩ | ⟨e1, e2⟩⟩ := hc
    · have a := (hm _ hi).trans (T e1); have b := (hm _ hj).trans (T e2)
      cases z
      · exact s_sub f hf a b
      · exact s_sub_n f hf a b
    · have a := (hm _ hi).trans (T e1); have b := (hm _ hj).trans (T e2)
      cases z
      · exact s_sub_c f hf a b
      · exact s_sub_t f hf a b
  · obtain ⟨hi, hj, ((⟨e1, e2⟩ | ⟨e1, e2⟩) | ⟨e1, e2⟩) | ⟨e1, e2⟩⟩ := hc
    · have a := (hm _ hi).trans (Z e1); have b := (hm _ hj).trans (T e2)
      have := s_mul_sg (s := false) (t := z) f hf a b
      cases z <;> exact this
    · have a := (hm _ hi).trans (T e1); have b := (hm _ hj).trans (T e2)
      have := s_mul_sg (s := true) (t := !z) f hf a b
      cases z <;> exact this
    · have a := (hm _ hi).trans (Z e1); have b := (hm _ hj).trans (T e2)
      have := s_mul_sg (s := false) (t := z) (fact_swap f) hf a b
      cases z <;> exact this
    · have a := (hm _ hi).trans (T e1); have b := (hm _ hj).trans (T e2)
      have := s_mul_sg (s := true) (t := !z) (fact_swap f) hf a b
      cases z <;> exact this
  · obtain ⟨hi, hj, e1, e2⟩ := hc
    have a := (hm _ hi).trans (T e1); have b := (hm _ hj).trans (Z e2)
    cases z
    · exact s_div f hf a b
    · exact s_div_t f hf a b
  · obtain ⟨hi, hj, rfl, e1, e2⟩ := hc
    exact s_max f hf ((hm _ hi).trans (Z e1)) ((hm _ hj).trans (Z e2))
  · obtain ⟨hi, rfl, e1 | e1⟩ := hc
    · exact s_sqr f hf ((hm _ hi).trans (Z e1))
    · exact s_sqr_t f hf ((hm _ hi).trans (T e1)) (of_decide_eq_true ar)
  · obtain ⟨hi, rfl, e1⟩ := hc
    exact s_sqrt f hf ((hm _ hi).trans (Z e1))
  · obtain ⟨rfl, e1⟩ := hc
    have a : r = _ := hf
    have b : gt u p = _ := f
    rw [a, eqF_ok e1]; exact b.symm
  · obtain ⟨rfl, e1⟩ := hc
    have a : r = _ := hf
    have b : gt u p = _ := f
    rw [a, eqI_ok e1]; exact b.symm
  · obtain ⟨hi, e1, e2, ⟨rfl, e3⟩ | ⟨rfl, e3, e4, e5⟩⟩ := hc
    · rw [eqF_ok e1, eqF_ok e2] at hf
      exact s_kept f hf ((hm _ hi).trans (Z e3))
    · rw [eqF_ok e3, eqF_ok e4] at hf
      rw [← eqF_ok e1, ← eqF_ok e2, eqF_ok e3, eqF_ok e4] at f
      exact s_kept_t f hf ((hm _ hi).trans (T e5))
  · obtain ⟨hi, rfl, e1⟩ := hc
    have a : r = _ := hf
    have b : gt u p = _ := f
    rw [a, (hm _ hi).trans (Z e1)]; exact b.symm
  · obtain ⟨hi, rfl, e1⟩ := hc
    have a : r = _ := hf
    have b : gt u p = _ := f
    rw [a, (hm _ hi).trans (Z e1)]; exact b.symm
  · cases hc
/-- looks for a row's mate, from place p on -/
def seek (L : List Bu.Op) (m : List Sg) (o' : Bu.Op) : List Bu.Op → Nat → Option Sg
  | [], _ => none
  | o :: t, p => bif mate L m o' o p false then some (p, false) else bif mate L m o' o p true then some (p, true) else seek L m o' t (p + 1)
theorem seek_ok {L : List Bu.Op} {m : List Sg} {o' : Bu.Op} : ∀ {t : List Bu.Op} {p : Nat} {x : Sg}, (∀ i, t[i]? = L[p + i]?) → seek L m o' t p = some x → ∃ o, L[x.1]? = some o ∧ mate L m o' o x.1 x.2 = true
  | [], _, _, _, h => by cases h
  | o :: t, p, x, ht, h => by
    unfold seek at h
    have h0 : L[p]? = some o := by have := ht 0; simpa using this.symm
    cases c1 : mate L m o' o p false
    · rw [c1, cond_false] at h
      cases c2 : mate L m o' o p true
      · rw [c2, cond_false] at h
        exact seek_ok (p := p + 1) (fun i => by have := ht (i + 1); rw [show p + 1 + i = p + (i + 1) from by omega, ← this]; rfl) h
      · rw [c2, cond_true] at h
        cases h; exact ⟨o, h0, c2⟩
    · rw [c1, cond_true] at h
      cases h; exact ⟨o, h0, c1⟩
theorem rel_cons {m : List Sg} {w u : List I} {r : I} {x : Sg} (h : Rel m w u) (e : r = vS u x) : Rel (x :: m) (r :: w) u := by
  intro i hi
  cases i with
  | zero => exact e
  | succ i => exact h i (by simpa using hi)
end Bu
namespace Bu
set_option linter.all false
open Rx Go

/-- the row at the same place first -/
def seek2 (L : List Bu.Op) (m : List Sg) (o' : Bu.Op) (p : Nat) : Option Sg := match L[p]? with
  | some o => bif mate L m o' o p false then some (p, false) else seek L m o' L 0
  | none => seek L m o' L 0
theorem seek2_ok {L : List Bu.Op} {m : List Sg} {o' : Bu.Op} {p : Nat} {x : Sg} (h : seek2 L m o' p = some x) : ∃ o, L[x.1]? = some o ∧ mate L m o' o x.1 x.2 = true := by
  have far : seek L m o' L 0 = some x → ∃ o, L[x.1]? = some o ∧ mate L m o' o x.1 x.2 = true := fun h => seek_ok (fun i => by rw [Nat.zero_add]) h
  unfold seek2 at h
  split at h
  · rename_i o e
    cases c : mate L m o' o p false
    · rw [c] at h; exact far h
    · rw [c] at h; cases h; exact ⟨o, e, c⟩
  · exact far h
def twin2 (L : List Bu.Op) : List Bu.Op → List Sg → Option (List Sg)
  | [], m => some m
  | o :: t, m => match o with
    | .neg i => bif decide (i < m.length) then twin2 L t (twS true (m.getD i (0, false)) :: m) else none
    | o => match seek2 L m o t.length with
      | some x => twin2 L t ((bif x.2 then twS true (canon L x.1) else canon L x.1) :: m)
      | none => none
theorem twin2_ok {l : List Bu.Op} {v u : List I} (h : ChainR l v u) : ∀ {t : List Bu.Op} {w u' : List I} {m k : List Sg}, ChainR t w u' → Rel m w u → twin2 l.reverse t m = some k → Rel k u' u
  | [], w, u', m, k, hc, hm, hk => by
    cases hk
    rw [show u' = w from hc]; exact hm
  | o :: t, w, u', m, k, ⟨r, ⟨f, _⟩, hc⟩, hm, hk => by
    have gen : (∀ i, o ≠ .neg i) → Rel k u' u := by
      intro hn
      have hk' : (match seek2 l.reverse m o t.length with
        | some x => twin2 l.reverse t ((bif x.2 then twS true (canon l.reverse x.1) else canon l.reverse x.1) :: m)
        | none => none) = some k := by
        rw [← hk]
        cases o <;> first | rfl | exact absurd rfl (hn _)
      split at hk'
      · rename_i x hx
        obtain ⟨o2, h1, h2⟩ := seek2_ok hx
        have e := mate_ok h hm h1 f h2
        refine twin2_ok h hc (rel_cons hm ?_) hk'
        rw [e]
        cases x.2
        · exact (canon_ok h _).symm
        · rw [cond_true, vs_tw, canon_ok h]
      · cases hk'
    cases o with
    | neg i =>
      unfold twin2 at hk
      simp only at hk
      cases c : decide (i < m.length)
      · rw [c] at hk; cases hk
      · rw [c, cond_true] at hk
        refine twin2_ok h hc (rel_cons hm ?_) hk
        rw [vs_tw, ← hm i (of_decide_eq_true c)]; exact f
    | _ => exact gen (fun i => by simp)
def tw1 (l t : List Bu.Op) (ps : List Nat) (i j : Nat) : Bool := match twin2 l.reverse t (ps.map fun p => (l.length + p, false)) with
  | some k => decide (i < k.length) && eqS (k.getD i (0, false)) (j, false)
  | none => false
theorem tw_get {l t : List Bu.Op} {v w : List I} {ps : List Nat} {i j : Nat} (h : (evalK KkR l v 0).2 = 0) (h' : (evalK KkR t w 0).2 = 0) (hw : ∀ i, i < ps.length → gt w i = gt v (ps.getD i 0)) (hk : tw1 l t ps i j = true) : gt (evalK KkR t w 0).1 i = gt (evalK KkR l v 0).1 j := by
  have c := eval_chainR h
  have c' := eval_chainR h'
  have d := chain_drop c
  have hr : Rel (ps.map fun p => (l.length + p, false)) w (evalK KkR l v 0).1 := by
    intro i hi
    rw [List.length_map] at hi
    have e : (ps.map fun p => (l.length + p, false)).getD i (0, false) = (l.length + ps.getD i 0, false) := by
      rw [List.getD_eq_getElem?_getD, List.getD_eq_getElem?_getD, List.getElem?_map, List.getElem?_eq_getElem hi]; rfl
    rw [hw i hi, e]
    show gt v (ps.getD i 0) = gt (evalK KkR l v 0).1 (l.length + ps.getD i 0)
    rw [← gt_drop, d]
  unfold tw1 at hk
  split at hk
  · rename_i k e
    rw [Bool.and_eq_true] at hk
    rw [twin2_ok c c' hr e i (of_decide_eq_true hk.1), eqS_ok hk.2]; rfl
  · cases hk
theorem one_box {v : V3} (h : OneP v) : InB v.x b11 ∧ InB v.y b11 ∧ InB v.z bzz := by
  have e : bzz.lo.q = 1 / 128 := by have : bzz.lo.q * 128 = 1 := q_of' (n := 1) (s := 7) (by decide +kernel) rfl; grind
  exact ⟨⟨h.x.lo, h.x.hi, h.x.rt⟩, ⟨h.y.lo, h.y.hi, h.y.rt⟩, ⟨q_le.1 (by rw [e]; exact h.up), h.z.hi, h.z.rt⟩⟩
def miE (v u : V3) : List I × Int := evalK KkR miH [u.z, u.y, u.x, v.z, v.y, v.x] 0
def hfI (v u : V3) : I := gt (miE v u).1 3
def lnI (v u : V3) : I := gt (miE v u).1 0
theorem q_mono : miH.all monoB = true ∧ gg2.all monoB = true ∧ gg1.all monoB = true ∧ ggD.all monoB = true ∧ miV.all monoB = true ∧ frD.all monoB = true ∧ frC.all monoB = true := by decide +kernel
theorem mi_ok {v u : V3} (hv : OneP v) (hu : OneP u) : (miE v u).2 = 0 ∧ InB (hfI v u) bhf ∧ InB (lnI v u) bln := by
  obtain ⟨v1, v2, v3⟩ := one_box hv
  obtain ⟨u1, u2, u3⟩ := one_box hu
  have b := box (v := [u.z, u.y, u.x, v.z, v.y, v.x]) (w := [bzz, b11, b11, bzz, b11, b11]) q_mono.1 ⟨u3, u2, u1, v3, v2, v1, trivial⟩ boxes_q.2.1
  exact ⟨b.1, (b.2 _).inB, (b.2 _).inB⟩
theorem mi_tw : tw1 miH miH [3, 4, 5, 0, 1, 2] 3 3 = true ∧ tw1 miH miH [3, 4, 5, 0, 1, 2] 0 0 = true := by decide +kernel
theorem mi_comm {v u : V3} (hv : OneP v) (hu : OneP u) : hfI u v = hfI v u ∧ lnI u v = lnI v u := by
  have w : ∀ i, i < [3, 4, 5, 0, 1, 2].length → gt [v.z, v.y, v.x, u.z, u.y, u.x] i = gt [u.z, u.y, u.x, v.z, v.y, v.x] ([3, 4, 5, 0, 1, 2].getD i 0) := by
    intro i hi
    match i, hi with
    | 0, _ => rfl
    | 1, _ => rfl
    | 2, _ => rfl
    | 3, _ => rfl
    | 4, _ => rfl
    | 5, _ => rfl
  exact ⟨tw_get (mi_ok hv hu).1 (mi_ok hu hv).1 w mi_tw.1, tw_get (mi_ok hv hu).1 (mi_ok hu hv).1 w mi_tw.2⟩
/-- of al, c -/
def lamP : List Op := [.sqr 1, .sqr 1, .num (one64), .sub 0 1, .div 0 2, .num (q2), .num (one64), .mul 6 2, .add 1 0, .sqrt 0, .num (one64), .sub 1 0, .mul 6 0, .hid 0]
def Lam (c al : I) : I := gt (evalK KkR lamP [c, al] 0).1 0
set_option maxRecDepth 100000 in
theorem lam_box : (evalK KkR lamP [bzz, bal] 0).2 = 0 ∧ lamP.all monoB = true := by decide +kernel
theorem lam_tw : tw1 gg2 lamP [1, 2] 0 17 = true ∧ tw1 gg2 lamP [0, 2] 0 3 = true ∧ tw1 gg1 lamP [0, 1] 0 3 = true := by decide +kernel
theorem lam_ok {c al : I} (hc : InB c bzz) (ha : InB al bal) : (evalK KkR lamP [c, al] 0).2 = 0 ∧ rt (Lam c al) = true ∧ 0 ≤ (Lam c al).lo.q := by
  have b := box (v := [c, al]) (w := [bzz, bal]) lam_box.2 ⟨hc, ha, trivial⟩ lam_box.1
  refine ⟨b.1, (b.2 0).rt, ?_⟩
  obtain ⟨_, k⟩ := eval_chain b.1
  have e : ∃ y, Lam c al = hidI y := by
    unfold Lam
    generalize (evalK KkR lamP [c, al] 0).1 = u at *
    obtain ⟨a2, ha2, sq, hsq, o2, ho2, s1, hs1, t, ht, h, hh, o3, ho3, atn, hatn, s2, hs2, r, hr, o4, ho4, s3, hs3, x, hx, l, hl, hend⟩ := k
    subst hend
    exact ⟨_, hl⟩
  obtain ⟨y, e⟩ := e
  rw [e]
  refine nn_q ?_
  have z : (toF 0).k = F.zero.k := by decide +kernel
  rw [(hidI_k y).1]; omega
def Ga (v u : V3) (al : I) : I := gt (evalK KkR gg2 [u.z, v.z, al] 0).1 0
def Gb (u : V3) (al : I) : I := gt (evalK KkR gg1 [u.z, al] 0).1 0
def Da (v u : V3) (al : I) : I := gt (evalK KkR ggD [lnI v u, al] 0).1 0
def giE (v u : V3) (al : I) : List I × Int := evalK KkR miV [Gb u al, Ga v u al, Da v u al, u.z, v.z] 0
def giV (v u : V3) (al : I) : I := gt (giE v u al).1 3
def giD (v u : V3) (al : I) : I := gt (giE v u al).1 0
structure GiP (v u : V3) (al : I) : Prop where
  e2 : (evalK KkR gg2 [u.z, v.z, al] 0).2 = 0
  e1 : (evalK KkR gg1 [u.z, al] 0).2 = 0
  eD : (evalK KkR ggD [lnI v u, al] 0).2 = 0
  e : (giE v u al).2 = 0
  v0 : 0 ≤ (giV v u al).lo.k
  vr : rt (giV v u al) = true
  d0 : 0 < (giD v u al).lo.k
  dr : rt (giD v u al) = true
  D0 : rt (Da v u al) = true
theorem gi_ok {v u : V3} {al : I} (hv : OneP v) (hu : OneP u) (ha : InB al bal) : GiP v u al := by
  obtain ⟨_, _, v3⟩ := one_box hv
  obtain ⟨_, _, u3⟩ := one_box hu
  obtain ⟨_, _, l⟩ := mi_ok hv hu
  obtain ⟨m1, m2, m3, m4, m5, m6, m7⟩ := q_mono
  obtain ⟨c1, c2, c3, c4, c5, c6, c7⟩ := boxes_c
  have b2 := box (v := [u.z, v.z, al]) (w := [bzz, bzz, bal]) m2 ⟨u3, v3, ha, trivial⟩ boxes_q.2.2.1
  have b1 := box (v := [u.z, al]) (w := [bzz, bal]) m3 ⟨u3, ha, trivial⟩ c4
  have bd := box (v := [lnI v u, al]) (w := [bln, bal]) m4 ⟨l, ha, trivial⟩ c3
  have b := box (v := [Gb u al, Ga v u al, Da v u al, u.z, v.z]) (w := [bG1, bG2, bD, bzz, bzz]) m5 ⟨(b1.2 0).inB, (b2.2 0).inB, (bd.2 0).inB, u3, v3, trivial⟩ c5
  exact ⟨b2.1, b1.1, bd.1, b.1, Int.le_trans c7 (b.2 _).inB.1, (b.2 _).rt, by have := (b.2 0).inB.1; have z : F.zero.k = 0 := rfl; exact Int.lt_of_lt_of_le (z ▸ c6) this, (b.2 _).rt, (bd.2 0).rt⟩
/-- the points of what is seen -/
theorem ga_pt {v u : V3} {al : I} {x y : Rat} (h : (evalK KkR gg2 [u.z, v.z, al] 0).2 = 0) (hx : Mem (Lam v.z al) x) (hy : Mem (Lam u.z al) y) (hv : InB v.z bzz) (hu : InB u.z bzz) (ha : InB al bal) : Mem (Ga v u al) (1 / (1 + x + y)) := by
  have t1 := tw_get (l := gg2) (t := lamP) (v := [u.z, v.z, al]) (w := [v.z, al]) h (lam_ok hv ha).1 (fun i hi => by match i, hi with | 0, _ => rfl | 1, _ => rfl) lam_tw.1
  have t2 := tw_get (l := gg2) (t := lamP) (v := [u.z, v.z, al]) (w := [u.z, al]) h (lam_ok hu ha).1 (fun i hi => by match i, hi with | 0, _ => rfl | 1, _ => rfl) lam_tw.2.1
  obtain ⟨_, k⟩ := eval_chain h
  have t1' : Lam v.z al = _ := t1
  have t2' : Lam u.z al = _ := t2
  rw [t1'] at hx; rw [t2'] at hy
  unfold Ga
  generalize (evalK KkR gg2 [u.z, v.z, al] 0).1 = w at *
  clear t1 t2 t1' t2'
  obtain ⟨a2, ha2, o1, ho1, sq, hsq, o2, ho2, s1, hs1, t, ht, h, hh, o3, ho3, atn, hatn, s2, hs2, r, hr, o4, ho4, s3, hs3, x, hx, l, hl, s, hs, sqd, hsqd, o2d, ho2d, s1d, hs1d, td, htd, hd, hhd, o3d, ho3d, atd, hatd, s2d, hs2d, rd, hrd, o4d, ho4d, s3d, hs3d, xd, hxd, ld, hld, sd, hsd, o5, ho5, g, hg, hend⟩ := k
  subst hend
  exact p_div hg (p_num ho5 one_q) (p_add hsd (p_add hs (p_num ho1 one_q) hx) hy)
theorem gb_pt {u : V3} {al : I} {y : Rat} (h : (evalK KkR gg1 [u.z, al] 0).2 = 0) (hy : Mem (Lam u.z al) y) (hu : InB u.z bzz) (ha : InB al bal) : Mem (Gb u al) (1 / (1 + y)) := by
  have t2 := tw_get (l := gg1) (t := lamP) (v := [u.z, al]) (w := [u.z, al]) h (lam_ok hu ha).1 (fun i hi => by match i, hi with | 0, _ => rfl | 1, _ => rfl) lam_tw.2.2
  obtain ⟨_, k⟩ := eval_chain h
  have t2' : Lam u.z al = _ := t2
  rw [t2'] at hy
  unfold Gb
  generalize (evalK KkR gg1 [u.z, al] 0).1 = w at *
  clear t2 t2'
  obtain ⟨a2, ha2, o1, ho1, sq, hsq, o2, ho2, s1, hs1, t, ht, hh, hhh, o3, ho3, a, hat, s2, hs2, r, hr, o4, ho4, s3, hs3, x, hx, l, hl, s, hs, o5, ho5, g, hg, hend⟩ := k
  subst hend
  exact p_div hg (p_num ho5 one_q) (p_add hs (p_num ho1 one_q) hy)
set_option maxRecDepth 100000 in
theorem gi_pt {v u : V3} {al : I} {d g o z w : Rat} (h : (giE v u al).2 = 0) (hd : Mem (Da v u al) d) (hg : Mem (Ga v u al) g) (ho : Mem (Gb u al) o) (hz : Mem v.z z) (hw : Mem u.z w) :
    Mem (giV v u al) (d * g / (4 * z * w)) ∧ Mem (giD v u al) (o * d / (4 * w)) := by
  obtain ⟨_, k⟩ := eval_chain h
  have f : four64.q = 4 := q_int (n := 4) (by decide +kernel)
  unfold giV giD giE
  generalize (evalK KkR miV [Gb u al, Ga v u al, Da v u al, u.z, v.z] 0).1 = r at *
  obtain ⟨four, hfour, m1, hm1, m2, hm2, m3, hm3, vv, hv, d1, hd1, d2, hd2, den, hden, hend⟩ := k
  subst hend
  exact ⟨p_div hv (p_mul hm1 hd hg) (p_mul hm3 (p_mul hm2 (p_num hfour f) hz) hw), p_div hden (p_mul hd1 ho hd) (p_mul hd2 (p_num hfour f) hw)⟩
end Bu
