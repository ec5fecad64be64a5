/- TrigHalves, plain: numbers doubled; the double angle by intervals. -/
import Derived.Test.YtccmfddnbofgkaaGreatIx
import Derived.Test.YtccmfddnbofgkaaGreatIw
namespace Bu
set_option linter.all false
open Rx Go

theorem twice_F {x : F} (h0 : 0 ≤ x.k) (h1 : x.q ≤ 1 / 2) : ∃ D : F, D.z = 2 * x.z := by
  obtain ⟨_, _, _, _, _, g2, _, _⟩ := consts
  have k2 : q2.k = 4602678819172646912 := by decide +kernel
  have hk : x.k ≤ q2.k := q_le.1 (by grind)
  have hP : P = 4503599627370496 := rfl
  have hT := T_num
  obtain ⟨r, hr⟩ := Int.eq_ofNat_of_zero_le h0
  have e1 : x.z = (nv r : Int) := by
    have e := nvZ_natCast r
    have : x.z = nvZ x.k := rfl
    rw [this, hr]; exact e
  have key : ∃ r' : Nat, nv r' = 2 * nv r ∧ r' < T := by
    by_cases hlt : r < P
    · refine ⟨0 * P + 2 * r, ?_, by omega⟩
      rw [nv_mk 0 (2 * r) (by omega) (.inl rfl)]
      have := nv_mk 0 r (by omega) (.inl rfl)
      rw [Nat.zero_mul, Nat.zero_add] at this
      rw [this]; omega
    · refine ⟨(r / P - 1 + 1) * P + (P + r % P), ?_, ?_⟩
      · have hm : r % P < P := Nat.mod_lt _ P_pos
        rw [nv_mk _ _ (by omega) (.inr (by omega)), nv_norm (by omega), Nat.pow_succ]; 
        generalize 2 ^ (r / P - 1) = u
        grind
      · have := Nat.div_add_mod r P
        have hm : r % P < P := Nat.mod_lt _ P_pos
        have hd : 1 ≤ r / P := by rw [hP]; omega
        rw [hP] at *
        omega
  obtain ⟨r', e2, e3⟩ := key
  refine ⟨F.of (r' : Int), ?_⟩
  have e : (F.of (r' : Int)).z = (nv r' : Int) := by
    have e := nvZ_natCast r'
    have : (F.of (r' : Int)).z = nvZ (F.of (r' : Int)).k := rfl
    rw [this, F.of_k (by omega)]; exact e
  rw [e, e1, e2]; omega
def two64 : F := toF 4611686018427387904
def fmu (x y : F) : Option Nat := Ieee.double.mul x.b y.b
set_option maxRecDepth 100000 in
theorem two_z : decide (two64.z = 2 * (S : Int)) = true := by decide +kernel
theorem fmu_zero : fmu two64 F.zero = some F.zero.b := by decide +kernel
theorem twice_ok {x : F} (h0 : 0 ≤ x.k) (h1 : x.q ≤ 1 / 2) : ∃ D : F, fmu two64 x = some D.b ∧ D.q = 2 * x.q := by
  obtain ⟨D, hD⟩ := twice_F h0 h1
  have hq : D.q = 2 * x.q := by
    unfold F.q
    rw [hD, Rat.intCast_mul, Rat.div_def, Rat.div_def, show ((2 : Int) : Rat) = 2 from rfl]; grind
  by_cases hx : x.k = 0
  · have e : x = F.zero := F.ext' hx
    subst e
    refine ⟨F.zero, fmu_zero, ?_⟩
    rw [q_zero]; grind
  · refine ⟨D, ?_, hq⟩
    have hk : D.k ≠ 0 := by
      intro h
      have a := (z_zero D).2 h
      have b := z_zero x
      have : x.z = 0 := by omega
      exact hx (b.1 this)
    refine mul_exact hk ?_
    rw [hD, of_decide_eq_true two_z]
    grind
theorem mul_in {a b : I} (ha : In1 a) (hb : In1 b) : ∃ r, cMul dMul 0 a b = (r, 0) ∧ In1 r ∧ ∀ x y, Mem a x → Mem b y → Mem r (x * y) := by
  obtain ⟨r, e, h⟩ := cMul_ok ha.sm hb.sm
  obtain ⟨⟨a1, a2⟩, ⟨a3, a4⟩, _⟩ := in1_q ha
  obtain ⟨⟨b1, b2⟩, ⟨b3, b4⟩, _⟩ := in1_q hb
  have p1 := (show Ab a.lo.q 1 from ⟨a1, a2⟩).mul (show Ab b.lo.q 1 from ⟨b1, b2⟩)
  have p2 := (show Ab a.lo.q 1 from ⟨a1, a2⟩).mul (show Ab b.hi.q 1 from ⟨b3, b4⟩)
  have p3 := (show Ab a.hi.q 1 from ⟨a3, a4⟩).mul (show Ab b.lo.q 1 from ⟨b1, b2⟩)
  have p4 := (show Ab a.hi.q 1 from ⟨a3, a4⟩).mul (show Ab b.hi.q 1 from ⟨b3, b4⟩)
  rw [Rat.one_mul] at p1 p2 p3 p4
  have m := mone_q
  have o := one_q
  have t1 := h.top (c := mone64) (by rw [m]; exact p1.lo) (by rw [m]; exact p2.lo) (by rw [m]; exact p3.lo) (by rw [m]; exact p4.lo)
  have t2 := h.bot (c := one64) (by rw [o]; exact p1.hi) (by rw [o]; exact p2.hi) (by rw [o]; exact p3.hi) (by rw [o]; exact p4.hi)
  have hm : ∀ x y, Mem a x → Mem b y → Mem r (x * y) := fun x y hx hy => mul_mem h hx hy
  have hr := (hm a.lo.q b.lo.q ⟨Rat.le_refl, (in1_q ha).2.2⟩ ⟨Rat.le_refl, (in1_q hb).2.2⟩)
  exact ⟨r, e, ⟨q_le.1 t1, q_le.1 t2, q_le.1 (Rat.le_trans hr.lo hr.hi)⟩, hm⟩
structure Kh where
  ib : I → Bool
  si : I → I
  co : I → I
  me : I → I → Bool
  add : Int → I → I → I × Int
  sub : Int → I → I → I × Int
  mul : Int → I → I → I × Int
  div : Int → I → I → I × Int
  max : Int → I → I → I × Int
  sqr : Int → I → I × Int
  sqrt : Int → I → I × Int
  num : Int → F → I × Int
def KhR : Kh := ⟨fun u => inB u.lo u.hi, fun u => sinM atR u.lo u.hi, fun u => cosM atR u.lo u.hi, meB, KTR.add, KTR.sub, KTR.mul, KTR.div, cMax, KTR.sqr, cSqrt qSqrt, KTR.num⟩
def fdv (x y : F) : Option Nat := Ieee.double.div x.b y.b
/-! twice -/
def hT (N : Kh) : I × Int := N.num 0 two64
def hM1 (N : Kh) (u : I) : I × Int := N.mul (hT N).2 (N.si u) (N.co u)
def hM2 (N : Kh) (u : I) : I × Int := N.mul (hM1 N u).2 (hT N).1 (hM1 N u).1
def hQ1 (N : Kh) (u : I) : I × Int := N.sqr (hM2 N u).2 (N.co u)
def hQ2 (N : Kh) (u : I) : I × Int := N.sqr (hQ1 N u).2 (N.si u)
def hD (N : Kh) (u : I) : I × Int := N.sub (hQ2 N u).2 (hQ1 N u).1 (hQ2 N u).1
def hB (N : Kh) (u v : I) : Obs := [(!((hD N u).2 == 0), false), (N.me (N.co v) (hD N u).1, true), (N.me (N.si v) (hM2 N u).1, true), (N.ib v, true)]
def tw2 (x : F) : F := sf (fmu two64 x)
/-! a half -/
def hP (f : Int → I → I → I × Int) (N : Kh) (t C : I) (e : Int) : I × Int :=
  N.max (N.num (N.div (f (N.num e one64).2 (N.num e one64).1 C).2 (f (N.num e one64).2 (N.num e one64).1 C).1 t).2 (toF 0)).2 (N.div (f (N.num e one64).2 (N.num e one64).1 C).2 (f (N.num e one64).2 (N.num e one64).1 C).1 t).1 (N.num (N.div (f (N.num e one64).2 (N.num e one64).1 C).2 (f (N.num e one64).2 (N.num e one64).1 C).1 t).2 (toF 0)).1
def hPart (N : Kh) (t C : I) (e : Int) : I × Int := hP N.add N t C e
def hRest (N : Kh) (t C : I) (e : Int) : I × Int := hP N.sub N t C (hPart N t C e).2
def hvC (N : Kh) (t C : I) (e : Int) : I × Int := N.sqrt (hRest N t C e).2 (hPart N t C e).1
def hvS (N : Kh) (t C : I) (e : Int) : I × Int := N.sqrt (hvC N t C e).2 (hRest N t C e).1
def hvX (x : F) : F := sf (fdv x two64)
def hRd (N : Kh) (t C : I) (e : Int) (x : F) : Obs := [(!((hvS N t C e).2 == 0), false), (N.me (N.si ⟨hvX x, hvX x⟩) (hvS N t C e).1, true), (N.me (N.co ⟨hvX x, hvX x⟩) (hvC N t C e).1, true), (N.ib ⟨hvX x, hvX x⟩, true)] ++ so (fdv x two64)
def hGo (N : Kh) (t : I) : Nat → F → I → Int → Obs → Obs
  | 0, _, _, _, ob => ob
  | n + 1, x, C, e, ob => hGo N t n (hvX x) (hvC N t C e).1 (hvS N t C e).2 (apd (hRd N t C e x) ob)
def hvO (N : Kh) (a b : F) : Obs :=
  hGo N (hT N).1 20 q2 (N.num (hD N ⟨a, b⟩).2 mone64).1 (N.num (hD N ⟨a, b⟩).2 mone64).2
    (apd (hB N ⟨a, b⟩ ⟨tw2 a, tw2 b⟩) (apd (so (fmu two64 b)) (apd (so (fmu two64 a)) [(N.ib ⟨a, b⟩, true), (decide (q2.k < b.k), false), (N.ib ⟨a, b⟩, true)])))
theorem two_q : two64.q = 2 := q_int (n := 2) (by decide +kernel)
theorem hT_ok : hT KhR = (⟨two64, two64⟩, 0) := cNum_ok two64
theorem hB_ok {a b : F} (h : inB a b = true) (h2 : b.q ≤ 1 / 2) {v : I} (hv : inB v.lo v.hi = true) (e1 : v.lo.q = 2 * a.q) : obsB (hB KhR ⟨a, b⟩ v) = true ∧ (hD KhR ⟨a, b⟩).2 = 0 := by
  obtain ⟨a0, ab, b1⟩ := inB_q h
  obtain ⟨⟨ms, _⟩, mc, _⟩ := enc_M h
  obtain ⟨⟨ps, _⟩, pc, _⟩ := enc_M (a := v.lo) (b := v.hi) hv
  obtain ⟨⟨d1, d2⟩, d3, d4⟩ := dbl (x := a.q) a0 (by grind)
  rw [e1] at ps pc
  have dlx := of_decide_eq_true dl_ok
  obtain ⟨m1, f1, i1, hm1⟩ := mul_in (sinM_in a b) (cosM_in a b)
  have g1 : hM1 KhR ⟨a, b⟩ = (m1, 0) := by unfold hM1; rw [hT_ok]; exact f1
  have q1 := hm1 _ _ ms mc
  have s2 : Sm ⟨two64, two64⟩ := ⟨by rw [two_q]; grind, Rat.le_refl, by rw [two_q]; grind⟩
  obtain ⟨m2, f2, r2⟩ := cMul_ok s2 i1.sm
  have g2 : hM2 KhR ⟨a, b⟩ = (m2, 0) := by unfold hM2; rw [hT_ok, g1]; exact f2
  have q2 := mul_mem r2 (x := 2) ⟨by rw [two_q]; exact Rat.le_refl, by rw [two_q]; exact Rat.le_refl⟩ q1
  obtain ⟨x1, f3, u3, hm3⟩ := sqr_in (cosM_in a b)
  have g3 : hQ1 KhR ⟨a, b⟩ = (x1, 0) := by unfold hQ1; rw [g2]; exact f3
  obtain ⟨x2, f4, u4, hm4⟩ := sqr_in (sinM_in a b)
  have g4 : hQ2 KhR ⟨a, b⟩ = (x2, 0) := by unfold hQ2; rw [g3]; exact f4
  obtain ⟨x3, f5, dn5, up5⟩ := cSub_ok u3.sm u4.sm
  have g5 : hD KhR ⟨a, b⟩ = (x3, 0) := by unfold hD; rw [g4, g3]; exact f5
  have q5 := sub_mem dn5 up5 (hm3 _ mc) (hm4 _ ms)
  have l1 := q2.lo; have l2 := q2.hi; have l3 := q5.lo; have l4 := q5.hi; have l5 := ps.lo; have l6 := ps.hi; have l7 := pc.lo; have l8 := pc.hi
  unfold hB
  rw [g5, g2]
  refine ⟨obsB_yes rfl (obsB_yes ?_ (obsB_yes ?_ (obsB_yes hv obsB_nil))), rfl⟩
  · exact meB_of (a := cosM atR v.lo v.hi) (b := x3) (by grind) (by grind) (by grind) (by grind)
  · exact meB_of (a := sinM atR v.lo v.hi) (b := m2) (by grind) (by grind) (by grind) (by grind)
end Bu
