/- CosineRound, plain. -/
import Derived.Test.YtiipaicbbmkagaaIl
import Derived.Test.YtiipaicbbmkagaaFs
namespace Bu
set_option linter.all false
open Rx Go

theorem z_diff {x y c : F} (h : x.q - y.q ≤ c.q) : x.z - y.z ≤ c.z := by
  have h1 := Rat.mul_nonneg (show 0 ≤ c.q - (x.q - y.q) by grind) (Rat.le_of_lt S_gt)
  have e1 := F.q_mul x; have e2 := F.q_mul y; have e3 := F.q_mul c
  have h2 : ((x.z - y.z : Int) : Rat) ≤ ((c.z : Int) : Rat) := by
    rw [Rat.intCast_sub, ← e1, ← e2, ← e3]
    generalize (S : Rat) = s at *
    grind
  exact Rat.intCast_le_intCast.1 h2
/-- the nearest difference is no more than what is no less than the difference -/
theorem sub_le {x y c : F} (h0 : y.q ≤ x.q) (hc : 0 < c.k) (h : x.q - y.q ≤ c.q) : ∃ D : F, Ieee.double.sub x.b y.b = some D.b ∧ D.k ≤ c.k := by
  have h1 := z_diff h
  have h2 := q_le_z.1 h0
  obtain ⟨r, hr⟩ := Int.eq_ofNat_of_zero_le (show 0 ≤ c.k by omega)
  have hT := c.hk
  have hS : (nv r : Int) = c.z := by
    have e := nvZ_natCast r
    have : c.z = nvZ c.k := rfl
    rw [this, hr]; exact e.symm
  rw [sub_F]
  by_cases g : x.z - y.z = 0
  · rw [if_pos g]
    exact ⟨F.zero, rfl, by show (0 : Int) ≤ c.k; omega⟩
  · have hn : near (x.z - y.z).natAbs 1 ≤ r := near_le (by decide) (by rw [Nat.mul_one]; omega)
    rw [if_neg g, decide_eq_false (by omega), Nat.min_eq_left (by omega), word_F _ _ (by omega) (by simp)]
    refine ⟨_, rfl, ?_⟩
    rw [if_neg (by decide), F.of_k (by omega)]
    omega
/-- a draw's interval: one number, or two that are next to one another -/
theorem unI_adj (n : Int) (h0 : 0 ≤ n) (h1 : n ≤ 18446744073709551615) : ((unI n).lo.k ≤ (unI n).hi.k ∧ (unI n).hi.k ≤ (unI n).lo.k + 1) ∧ (unI n).hi.q - (unI n).lo.q ≤ 2 * ulp ∧ ((unI n).hi.q = (unI n).lo.q ∨ 1 / 2048 ≤ (unI n).lo.q) := by
  have hu := ulp_pos
  have hn : n.toNat < 18446744073709551616 := by omega
  have hU := unI_U n h0 h1
  have l1 := hU.lo; have l2 := hU.rt; have l3 := hU.hi
  by_cases c : n.toNat % 2 ^ unitCut n.toNat = 0
  · have e : (unI n).hi = (unI n).lo := by
      show (unitOf n.toNat).hi = unitLo n.toNat
      unfold unitOf; simp only [if_pos c]
    rw [e]
    exact ⟨⟨by omega, by omega⟩, by grind, .inl rfl⟩
  · have e : (unI n).hi = (nextF (unitLo n.toNat) true).1 := by
      show (unitOf n.toNat).hi = _
      unfold unitOf; simp only [if_neg c]
    have hk := (nextF_up (unitLo n.toNat) (unitLo_lt n.toNat hn)).1
    have hk2 : (unI n).hi.k = (unI n).lo.k + 1 := by rw [e]; exact hk
    refine ⟨⟨by omega, by omega⟩, ?_, .inr ?_⟩
    · obtain ⟨d, d1, d2⟩ := above l1 (by grind)
      have := q_lt.1 d1
      have h3 : (unI n).hi.q ≤ d.q := q_le.2 (by omega)
      grind
    · have hm := unit_m n.toNat hn
      have hP : P = 4503599627370496 := rfl
      have c0 : unitCut n.toNat ≠ 0 := by
        intro h; apply c; rw [h]; omega
      have hz := unitLo_z n.toNat hn
      have h3 : 9007199254740992 * Q64 ≤ n.toNat / 2 ^ unitCut n.toNat * 2 ^ unitCut n.toNat * Q64 := by
        refine Nat.mul_le_mul_right _ ?_
        have h4 : 2 ^ 1 ≤ 2 ^ unitCut n.toNat := Nat.pow_le_pow_right (by omega) (by omega)
        have h5 := Nat.mul_le_mul (hm.2.2.resolve_left c0) h4
        omega
      have h6 : ((9007199254740992 * Q64 : Nat) : Int) ≤ (unI n).lo.z := by
        show _ ≤ (unitLo n.toNat).z
        rw [hz]; exact Int.ofNat_le.2 h3
      have h7 := Rat.intCast_le_intCast.2 h6
      rw [← F.q_mul, Rat.intCast_natCast, Rat.natCast_mul] at h7
      have hS : (S : Rat) = 18446744073709551616 * ((Q64 : Nat) : Rat) := by
        have : ((S : Nat) : Rat) = ((18446744073709551616 * Q64 : Nat) : Rat) := by rw [← S_Q64]
        rw [this, Rat.natCast_mul]; rfl
      rw [hS] at h7
      have hq := natq_pos Q64_pos
      have e1 : ((9007199254740992 : Nat) : Rat) = 9007199254740992 := rfl
      rw [e1] at h7
      generalize ((Q64 : Nat) : Rat) = w at *
      refine Rat.le_of_mul_le_mul_right (c := w) ?_ hq
      grind
theorem r_near {a b : Int} {D : DrawF a b} (h0 : 0 ≤ a) (h1 : a ≤ 18446744073709551615) (hD : DrawP a b D) : wd D.r ≤ 202 * ulp := by
  have hu := ulp_pos
  have hu1 : ulp ≤ 1 / 1048576 := by unfold ulp; grind
  have hU := unI_U a h0 h1
  have l1 := hU.lo; have l2 := hU.rt; have l3 := hU.hi
  obtain ⟨_, k1, k2⟩ := unI_adj a h0 h1
  have r0 := hD.r1.nn
  have key : (unI a).hi.q - (unI a).lo.q ≤ 2 * (200 * ulp - 2 * ulp) * D.r.lo.q + (200 * ulp - 2 * ulp) * (200 * ulp - 2 * ulp) := by
    have p1 := Rat.mul_nonneg (show 0 ≤ 200 * ulp - 2 * ulp by grind) r0
    have p2 := sq_nn (200 * ulp - 2 * ulp)
    rcases k2 with e | e
    · grind
    · have h64 : ∃ c : F, c.q = 1 / 64 := by
        obtain ⟨c, hc⟩ := grid 1 (by omega) 6 (by omega) (by omega)
        have e8 : ((2 ^ 6 : Nat) : Rat) = 64 := rfl
        have e5 : ((1 : Int) : Rat) = 1 := rfl
        rw [e8, e5] at hc; exact ⟨c, by grind⟩
      obtain ⟨c, hc⟩ := h64
      have := hD.r1.top c (by rw [hc]; grind) (by rw [hc]; grind)
      rw [hc] at this
      have p3 := Rat.mul_nonneg (show 0 ≤ 200 * ulp - 2 * ulp by grind) (show 0 ≤ D.r.lo.q - 1 / 64 by grind)
      grind
  have := root_near hD.r1 hD.r2 l2 l3 (200 * ulp) (by grind) (by grind) key
  unfold wd
  grind
def gam : Rat := 1 / 134217728
theorem gam_sq : gam * gam = 1 / 2 * ulp := by decide +kernel
theorem gam_ulp : decide (1024 * ulp ≤ gam ∧ gam ≤ 1 / 64 ∧ 4 * gam = 1 / 33554432) = true := by decide +kernel
theorem z_near {a b : Int} {D : DrawF a b} (h0 : 0 ≤ a) (h1 : a ≤ 18446744073709551615) (hD : DrawP a b D) : wd D.z ≤ 1 / 33554432 := by
  have hu := ulp_pos
  have hU := unI_U a h0 h1
  have l1 := hU.lo; have l2 := hU.rt; have l3 := hU.hi
  obtain ⟨_, k1, _⟩ := unI_adj a h0 h1
  have d1 := hD.du.lo; have d2 := hD.du.rt; have d3 := hD.du.hi
  have n1 := hD.d1.near1 (by grind) (by grind)
  have n2 := hD.d2.near1 (by grind) (by grind)
  have r0 := hD.z1.nn
  have g1 := gam_sq
  obtain ⟨g2, g3, g4⟩ := of_decide_eq_true gam_ulp
  rw [← g4]
  generalize gam = γ at *
  have key : D.d.hi.q - D.d.lo.q ≤ 2 * ((3 * γ + 2 * ulp) - 2 * ulp) * D.z.lo.q + ((3 * γ + 2 * ulp) - 2 * ulp) * ((3 * γ + 2 * ulp) - 2 * ulp) := by
    have p1 := Rat.mul_nonneg (show (0 : Rat) ≤ γ by grind) r0
    have e : 3 * γ + 2 * ulp - 2 * ulp = 3 * γ := by grind
    rw [e]
    grind
  have := root_near hD.z1 hD.z2 d2 d3 (3 * γ + 2 * ulp) (by grind) (by grind) key
  unfold wd
  grind
theorem x_near {a b : Int} {D : DrawF a b} (h0 : 0 ≤ a) (h1 : a ≤ 18446744073709551615) (g0 : 0 ≤ b) (g1 : b ≤ 18446744073709551615) (hD : DrawP a b D) : wd D.x ≤ 900 * ulp := by
  have hu := ulp_pos
  have hu1 : ulp ≤ 1 / 1048576 := by unfold ulp; grind
  have hr := r_near h0 h1 hD
  have hU := unI_U b g0 g1
  obtain ⟨k0, k1, _⟩ := unI_adj b g0 g1
  have hc := (sc_adj hU.lo hU.hi k0 k1).2
  have ci := cosM_in (unI b).lo (unI b).hi
  have c1 := q_le.2 ci.lo; have c2 := q_le.2 ci.hi; have c3 := q_le.2 ci.rt
  rw [mone_q] at c1; rw [one_q] at c2
  have ru := hD.ru
  have r1 := ru.lo; have r2 := ru.rt; have r3 := ru.hi
  have hm := hD.mx
  unfold wd at *
  generalize (cosM atR (unI b).lo (unI b).hi).lo.q = c at *
  generalize (cosM atR (unI b).lo (unI b).hi).hi.q = d at *
  generalize D.r.lo.q = u at *
  generalize D.r.hi.q = v at *
  have k2 := Rat.mul_nonneg r1 (show 0 ≤ d - c by grind)
  have k3 := Rat.mul_nonneg (show 0 ≤ 1 - u by grind) (show 0 ≤ d - c by grind)
  have k4 := Rat.mul_nonneg (show 0 ≤ v - u by grind) (show 0 ≤ 1 - c by grind)
  have k5 := Rat.mul_nonneg (show 0 ≤ v - u by grind) (show 0 ≤ 1 + c by grind)
  have k6 := Rat.mul_nonneg (show 0 ≤ v by grind) (show 0 ≤ d - c by grind)
  have k7 := Rat.mul_nonneg (show 0 ≤ 1 - v by grind) (show 0 ≤ d - c by grind)
  have b1 := prod1 r1 (by grind) c1 (by grind)
  have b2 := prod1 r1 (by grind) (show -1 ≤ d by grind) c2
  have b3 := prod1 (show 0 ≤ v by grind) r3 c1 (by grind)
  have b4 := prod1 (show 0 ≤ v by grind) r3 (show -1 ≤ d by grind) c2
  have s2 : u * c - 402 * ulp ≤ u * d ∧ u * d ≤ u * c + 402 * ulp := by constructor <;> grind
  have s3 : u * c - 402 * ulp ≤ v * c ∧ v * c ≤ u * c + 402 * ulp := by constructor <;> grind
  have s4 : u * c - 402 * ulp ≤ v * d ∧ v * d ≤ u * c + 402 * ulp := by constructor <;> grind
  generalize u * c = x1 at *
  generalize u * d = x2 at *
  generalize v * c = x3 at *
  generalize v * d = x4 at *
  have w1 := hm.near_hi (m := x1 + 402 * ulp) (by grind) s2.2 s3.2 s4.2 ⟨b1.1, b1.2, b2.1, b2.2, b3.1, b3.2, b4.1, b4.2⟩
  have w2 := hm.near_lo (m := x1 - 402 * ulp) (by grind) s2.1 s3.1 s4.1 ⟨b1.1, b1.2, b2.1, b2.2, b3.1, b3.2, b4.1, b4.2⟩
  grind
/-- names -/
structure Kx where
  dv : Int → Int → I × I × I
  uo : Int → I
  u : Int → Bool
  ib : I → Bool
  si : I → I
  co : I → I
  add : Int → I → I → I × Int
  sub : Int → I → I → I × Int
  mul : Int → I → I → I × Int
  sqr : Int → I → I × Int
  num : Int → F → I × Int
def xFlat (N : Kx) (a b : Int) : I × Int := N.add (N.sqr (N.sqr 0 (N.dv a b).1).2 (N.dv a b).2.1).2 (N.sqr 0 (N.dv a b).1).1 (N.sqr (N.sqr 0 (N.dv a b).1).2 (N.dv a b).2.1).1
def xHigh (N : Kx) (a b : Int) : I × Int := N.sqr (xFlat N a b).2 (N.dv a b).2.2
def xOne (N : Kx) (a b : Int) : I × Int := N.num (xHigh N a b).2 one64
def xSub (N : Kx) (a b : Int) : I × Int := N.sub (xOne N a b).2 (xOne N a b).1 (N.uo a)
def xSum (N : Kx) (a b : Int) : I × Int := N.add (xSub N a b).2 (xFlat N a b).1 (xHigh N a b).1
def xM1 (N : Kx) (a b : Int) : I × Int := N.mul (xSum N a b).2 (N.dv a b).1 (N.si (N.uo b))
def xM2 (N : Kx) (a b : Int) : I × Int := N.mul (xM1 N a b).2 (N.dv a b).2.1 (N.co (N.uo b))
def sbO (a : I) (c : Nat) : Obs := [(decide ((toF ((Ieee.double.sub a.hi.b a.lo.b).getD 0)).k ≤ (toF c).k), true), ((Ieee.double.sub a.hi.b a.lo.b).isSome, true), (rightB ((Ieee.double.sub a.hi.b a.lo.b).getD 0), true)]
def crOb (N : Kx) (a b : Int) : Obs := sbO (N.dv a b).2.2 4494592428115755008 ++ sbO (N.dv a b).1 4427038433705197568 ++
  [(decide ((N.dv a b).2.2.hi.k ≤ one64.k), true), (decide ((toF 0).k ≤ (N.dv a b).2.2.lo.k), true),
   (decide ((xM2 N a b).1.lo.k ≤ (xM1 N a b).1.hi.k), true), (decide ((xM1 N a b).1.lo.k ≤ (xM2 N a b).1.hi.k), true),
   (decide ((xOne N a b).1.lo.k ≤ (xSum N a b).1.hi.k), true), (decide ((xSum N a b).1.lo.k ≤ (xOne N a b).1.hi.k), true),
   (decide ((xSub N a b).1.lo.k ≤ (xHigh N a b).1.hi.k), true), (decide ((xHigh N a b).1.lo.k ≤ (xSub N a b).1.hi.k), true),
   (decide ((N.uo a).lo.k ≤ (xFlat N a b).1.hi.k), true), (decide ((xFlat N a b).1.lo.k ≤ (N.uo a).hi.k), true),
   (decide ((xOne N a b).2 = 0), true), (N.ib (N.uo b), true), (N.u b, true), (N.u a, true), (N.u a, true), (N.u b, true)]
def KxR : Kx := ⟨dV (KqR atR), unI, uB, fun u => inB u.lo u.hi, fun u => sinM atR u.lo u.hi, fun u => cosM atR u.lo u.hi, KTR.add, KTR.sub, KTR.mul, KTR.sqr, KTR.num⟩
theorem clamp_q (x : F) : ((mnF (mxF x mone64) one64).q = x.q ∧ -1 ≤ x.q ∧ x.q ≤ 1) ∨ ((mnF (mxF x mone64) one64).q = -1 ∧ x.q ≤ -1) ∨ ((mnF (mxF x mone64) one64).q = 1 ∧ 1 ≤ x.q) := by
  have m1 := mxF_q x mone64
  have m2 := mnF_q (mxF x mone64) one64
  rw [mone_q] at m1
  rw [one_q] at m2
  rcases mnF_or (mxF x mone64) one64 with h | h
  · rcases mxF_or x mone64 with g | g
    · left; rw [h, g] at m2 ⊢; rw [g] at m1; exact ⟨rfl, m1.2, m2.2⟩
    · right; left; rw [h, g] at m2 ⊢; rw [g, mone_q] at m1; rw [mone_q]; exact ⟨rfl, m1.1⟩
  · rw [h, one_q] at m2 ⊢
    rcases mxF_or x mone64 with g | g
    · right; right; rw [g] at m2; exact ⟨rfl, m2.1⟩
    · exfalso; rw [g, mone_q] at m2; have := m2.1; grind
theorem kept_wd {a : I} (h : a.lo.q ≤ a.hi.q) : wd (keptI a mone64 one64) ≤ wd a := by
  have h1 := clamp_q a.lo
  have h2 := clamp_q a.hi
  unfold wd
  show (mnF (mxF a.hi mone64) one64).q - (mnF (mxF a.lo mone64) one64).q ≤ _
  grind
theorem sb_ok {a : I} {c : Nat} (h0 : a.lo.q ≤ a.hi.q) (hc : 0 < (toF c).k) (h : wd a ≤ (toF c).q) : obsB (sbO a c) = true := by
  obtain ⟨D, e, k⟩ := sub_le h0 hc h
  have y : ∀ {c : Bool} {r : Obs}, c = true → obsB r = true → obsB ((c, true) :: r) = true := fun h k => by unfold obsB at *; rw [List.all_cons, h, k]; rfl
  unfold sbO
  rw [e, Option.getD_some, toF_F]
  exact y (decide_eq_true k) (y rfl (y (right_F D) rfl))
set_option maxRecDepth 100000 in
theorem c25_q : (toF 4494592428115755008).q * 33554432 = 1 ∧ 0 < (toF 4494592428115755008).k := ⟨q_of' (n := 1) (s := 25) (by decide +kernel) rfl, of_decide_eq_true (by decide +kernel)⟩
set_option maxRecDepth 100000 in
theorem c40_q : (toF 4427038433705197568).q * 1099511627776 = 1 ∧ 0 < (toF 4427038433705197568).k := ⟨q_of' (n := 1) (s := 40) (by decide +kernel) rfl, of_decide_eq_true (by decide +kernel)⟩
theorem two_ex : ∃ c : F, c.q = 2 := by
  obtain ⟨c, hc⟩ := grid 2 (by omega) 0 (by omega) (by omega)
  exact ⟨c, by have e1 : ((2 ^ 0 : Nat) : Rat) = 1 := rfl; have e2 : ((2 : Int) : Rat) = 2 := rfl; rw [e1, e2] at hc; grind⟩
theorem U01.in1 {a : I} (h : U01 a) : In1 a := by
  have h1 := h.lo; have h2 := h.rt; have h3 := h.hi
  exact ⟨q_le.1 (by rw [mone_q]; grind), q_le.1 (by rw [one_q]; exact h3), q_le.1 h2⟩
theorem crOb_ok {a b : Int} (h0 : 0 ≤ a) (h1 : a ≤ 18446744073709551615) (g0 : 0 ≤ b) (g1 : b ≤ 18446744073709551615) : obsB (crOb KxR a b) = true := by
  obtain ⟨D, hD⟩ := draw_ok (a := a) (b := b) h0 h1
  have ib := unI_in b g0 g1
  have hU := unI_U a h0 h1
  have u1 := hU.lo; have u2 := hU.rt; have u3 := hU.hi
  have ez : (KxR.dv a b).2.2 = D.z := by show (dV (KqR atR) a b).2.2 = _; unfold dV; rw [hD.ez]; exact keptZ hD.zu
  have ex : (KxR.dv a b).1 = keptI D.x mone64 one64 := by show (dV (KqR atR) a b).1 = _; unfold dV; rw [hD.ex]
  have ey : (KxR.dv a b).2.1 = keptI D.y mone64 one64 := by show (dV (KqR atR) a b).2.1 = _; unfold dV; rw [hD.ey]
  have xr := Rat.le_trans hD.mx.lo.1 hD.mx.hi.1
  have yr := Rat.le_trans hD.my.lo.1 hD.my.hi.1
  have iX := kept_in xr
  have iY := kept_in yr
  -- flat
  obtain ⟨fl, f1, f2, f3⟩ := flat_ok h0 h1 g0 g1
  have eF : xFlat KxR a b = (fl, 0) := f1
  have smF : Sm fl := by
    obtain ⟨p, p1, pu, _⟩ := sqr_in iX
    obtain ⟨q, q1, qu, _⟩ := sqr_in iY
    obtain ⟨r, r1, r2, r3⟩ := cAdd_ok pu.sm qu.sm
    have e : xFlat KxR a b = (r, 0) := by
      unfold xFlat
      rw [ex, ey]
      have k1 : KxR.sqr 0 (keptI D.x mone64 one64) = (p, 0) := p1
      have k2 : KxR.sqr 0 (keptI D.y mone64 one64) = (q, 0) := q1
      simp only [k1, k2]; exact r1
    rw [eF] at e
    have e' := (Prod.mk.inj e).1
    subst e'
    obtain ⟨t, ht⟩ := two_ex
    have a1 := pu.lo; have a2 := pu.rt; have a3 := pu.hi; have b1 := qu.lo; have b2 := qu.rt; have b3 := qu.hi
    have l1 : 0 ≤ fl.lo.q := by rw [← q_zero]; exact r2.top F.zero (by rw [q_zero]; grind)
    have l2 : fl.hi.q ≤ 2 := by rw [← ht]; exact r3.bot t (by rw [ht]; grind)
    exact ⟨by grind, by have := r2.le; have := r3.ge; grind, by grind⟩
  -- high
  have zu := hD.zu
  have z1 := zu.lo; have z2 := zu.rt; have z3 := zu.hi
  obtain ⟨h, e3, hu, hm⟩ := sqr_in zu.in1
  have eH : xHigh KxR a b = (h, 0) := by unfold xHigh; rw [eF, ez]; exact e3
  have hl := (hm D.z.lo.q ⟨Rat.le_refl, z2⟩).lo
  have hh := (hm D.z.hi.q ⟨z2, Rat.le_refl⟩).hi
  have eO : xOne KxR a b = (⟨one64, one64⟩, 0) := by unfold xOne; rw [eH]; exact cNum_ok one64
  have eS : xSub KxR a b = (D.d, 0) := by
    have := hD.ed
    unfold dD dO at this
    rw [hD.ey] at this
    unfold xSub; rw [eO]; exact this
  obtain ⟨s, e5, s1, s2⟩ := cAdd_ok smF hu.sm
  have eA : xSum KxR a b = (s, 0) := by unfold xSum; rw [eS, eF, eH]; exact e5
  have si := sinM_in (unI b).lo (unI b).hi
  have ci := cosM_in (unI b).lo (unI b).hi
  obtain ⟨m, e6, m1⟩ := cMul_ok iX.sm si.sm
  obtain ⟨k, e7, k1⟩ := cMul_ok iY.sm ci.sm
  have eM : xM1 KxR a b = (m, 0) := by unfold xM1; rw [eA, ex]; exact e6
  have eK : xM2 KxR a b = (k, 0) := by unfold xM2; rw [eM, ey]; exact e7
  -- a value of both
  obtain ⟨⟨sv, cv, n1, n2, n3⟩, _⟩ := circ_M ib
  obtain ⟨⟨a1, a2⟩, a3, a4⟩ := abs_of_sq n3
  have ru := hD.ru
  have r1 := ru.lo; have r2 := ru.rt; have r3 := ru.hi
  have ml : Mem D.r D.r.lo.q := ⟨Rat.le_refl, r2⟩
  have b1 := prod1 r1 (by grind) a3 a4
  have b2 := prod1 r1 (by grind) a1 a2
  have vm := mul_mem m1 ((keptI_q D.x).2.2.2.2.2 _ (mul_mem hD.mx ml n2) b1.1 b1.2) n1
  have vk := mul_mem k1 ((keptI_q D.y).2.2.2.2.2 _ (mul_mem hD.my ml n1) b2.1 b2.2) n2
  have ev : D.r.lo.q * cv * sv = D.r.lo.q * sv * cv := by grind
  rw [ev] at vm
  -- the ends
  have d1 := hD.d1.le; have d2 := hD.d2.ge
  have t1 := hD.z1.le; have t2 := hD.z2.ge
  have dr := hD.du.rt
  have p1 := s1.le; have p2 := s2.ge
  have y : ∀ {c : Bool} {r : Obs}, c = true → obsB r = true → obsB ((c, true) :: r) = true := fun h k => by unfold obsB at *; rw [List.all_cons, h, k]; rfl
  have le : ∀ {p q : F}, p.q ≤ q.q → decide (p.k ≤ q.k) = true := fun h => decide_eq_true (q_le.1 h)
  have both : ∀ {a b : Obs}, obsB a = true → obsB b = true → obsB (a ++ b) = true := fun ha hb => by unfold obsB at *; rw [List.all_append, ha, hb]; rfl
  have ub : ∀ n : Int, 0 ≤ n → n ≤ 18446744073709551615 → uB n = true := fun n h1 h2 => decide_eq_true ⟨h1, h2⟩
  have q25 := c25_q
  have q40 := c40_q
  unfold crOb
  rw [ez, ex, eM, eK, eO, eA, eS, eH, eF]
  refine both (both (sb_ok z2 q25.2 ?_) (sb_ok (q_le.2 iX.rt) q40.2 ?_)) ?_
  · have := z_near h0 h1 hD
    grind
  · have w := x_near h0 h1 g0 g1 hD
    have w2 := kept_wd xr
    have eu : 8192 * ulp * 1099511627776 = 1 := by decide +kernel
    have := ulp_pos
    grind
  · refine y (le (by rw [one_q]; exact z3)) (y (le (by rw [zero0_q]; exact z1)) (y (le (Rat.le_trans vk.lo vm.hi)) (y (le (Rat.le_trans vm.lo vk.hi)) (y (le ?_) (y (le ?_) (y (le ?_) (y (le ?_) (y (le ?_) (y (le ?_) (y rfl (y ib (y (ub b g0 g1) (y (ub a h0 h1) (y (ub a h0 h1) (y (ub b g0 g1) rfl)))))))))))))))
    · rw [one_q]; grind
    · rw [one_q]; grind
    · show D.d.lo.q ≤ h.hi.q; grind
    · show h.lo.q ≤ D.d.hi.q; grind
    · show (unI a).lo.q ≤ fl.hi.q; grind
    · show fl.lo.q ≤ (unI a).hi.q; grind
end Bu
