/- CosineOften, plain. -/
import Derived.Test.YtiipaicbbmkagaaIj
import Derived.Test.YtiipaicbbmkagaaIn
namespace Bu
set_option linter.all false
open Rx Go

def c32 : F := toF 4751297606873776128
def fracW (n : Int) : Nat := (Ieee.double.div (FloatKind.f64.nearest n) c32.b).getD 0
def fracF (n : Int) : F := toF (fracW n)
set_option maxRecDepth 100000 in
theorem c32_z : c32.z = 4294967295 * (S : Int) ∧ 0 < c32.k := ⟨of_decide_eq_true (by decide +kernel), of_decide_eq_true (by decide +kernel)⟩
set_option maxRecDepth 100000 in
theorem one64_nv : nv 4607182418800017408 = S := of_decide_eq_true (by decide +kernel)
theorem near_int {n : Nat} (h : n ≤ 9007199254740992) : FloatKind.f64.nearest (n : Int) = (F.dy n 0).b := by
  have := nat_conv (m := n) (by have : P = 4503599627370496 := rfl; omega)
  rw [← this]; rfl
theorem frac_ok {n : Int} (h0 : 0 ≤ n) (h1 : n ≤ 4294967295) : (Ieee.double.div (FloatKind.f64.nearest n) c32.b).isSome = true ∧ (fracF n).b = fracW n ∧ 0 ≤ (fracF n).q ∧ (fracF n).q ≤ 1 := by
  obtain ⟨m, rfl⟩ := Int.eq_ofNat_of_zero_le h0
  by_cases hm : m = 0
  · subst hm
    have e1 : Ieee.double.div (FloatKind.f64.nearest ((0 : Nat) : Int)) c32.b = some 0 := by decide +kernel
    have e2 : fracW ((0 : Nat) : Int) = 0 := by unfold fracW; rw [e1]; rfl
    have e3 : fracF ((0 : Nat) : Int) = toF 0 := by unfold fracF; rw [e2]
    rw [e1, e2, e3, zero0_q]
    exact ⟨rfl, by decide +kernel, Rat.le_refl, by grind⟩
  · have hP : P = 4503599627370496 := rfl
    have hz := nat_z (m := m) (by omega)
    have hk : 0 < (F.dy m 0).k := by
      have hS := S_pos
      have h2 : 0 < (F.dy m 0).z := by rw [hz]; exact Int.mul_pos (by omega) (by omega)
      have a := z_sign (F.dy m 0)
      have b := z_zero (F.dy m 0)
      omega
    have hle : (F.dy m 0).z ≤ c32.z := by rw [hz, c32_z.1]; exact Int.mul_le_mul_of_nonneg_right (by omega) (by have := S_pos; omega)
    obtain ⟨t, e, t0, t1⟩ := div_le1 hk c32_z.2 hle one64_nv (by rw [T_num]; omega)
    have e1 : Ieee.double.div (FloatKind.f64.nearest (m : Int)) c32.b = some t.b := by rw [near_int (by omega)]; exact e
    have e2 : fracW (m : Int) = t.b := by unfold fracW; rw [e1]; rfl
    have e3 : fracF (m : Int) = t := by unfold fracF; rw [e2, toF_F]
    rw [e1, e2, e3]
    refine ⟨rfl, rfl, ?_, ?_⟩
    · rw [← q_zero]; exact q_le.2 t0
    · rw [← one_q]; exact q_le.2 (by rw [one_k2]; exact t1)
/-- a number and 0 -/
theorem add_zero_F (b : F) : Ieee.double.add b.b (toF 0).b = some b.b := by
  have ez : (toF 0).z = 0 := by rw [show toF 0 = F.zero from F.ext' (by decide +kernel)]; exact F.zero_z
  rw [add_F, ez, Int.add_zero]
  by_cases h : b.k = 0
  · have e : b = F.zero := F.ext' h
    subst e
    rw [if_pos F.zero_z]; rfl
  · rw [if_neg (fun k => h ((z_zero _).1 k))]
    congr 1
    rw [z_natAbs', near_exact (r := b.k.natAbs) (by decide) (by omega)]
    have := b.hk
    rw [show min b.k.natAbs T = b.k.natAbs from by omega, ← word_sign _ h]
    congr 1
    exact decide_eq_decide.2 (z_sign _)
structure Ko where
  dv : Int → Int → I × I × I
  uo : Int → I
  u : Int → Bool
  fr : Int → F
  w : Int → Bool
  rt : I → Bool
  sub : Int → I → I → I × Int
  mul : Int → I → I → I × Int
  sqr : Int → I → I × Int
  num : Int → F → I × Int
def oOne (N : Ko) : I × Int := N.num 0 one64
def oSq (N : Ko) (t : F) : I × Int := N.sqr (oOne N).2 ⟨t, t⟩
def oSb (N : Ko) (t : F) : I × Int := N.sub (oSq N t).2 (oOne N).1 (oSq N t).1
def oPart (N : Ko) (t : F) : I × Int := N.mul (oSb N t).2 ⟨one64, one64⟩ (oSb N t).1
def coOb (N : Ko) (a b c : Int) (p1 p2 : Bool) : Obs :=
  (bif p2 then [] else [(decide ((N.dv a b).2.2.lo.k ≤ (N.fr c).k), true)]) ++ [(decide ((N.uo a).lo.k ≤ (oPart N (N.fr c)).1.hi.k), p2)] ++
  (bif p1 then [] else [(decide ((N.fr c).k ≤ (N.dv a b).2.2.hi.k), true)]) ++ [(decide ((oPart N (N.fr c)).1.lo.k ≤ (N.uo a).hi.k), p1)] ++
  [(decide ((N.uo a).hi.k < (N.uo a).lo.k), false), (N.u a, true), (!((oPart N (N.fr c)).2 == 0), false), (decide (one64.k < (N.fr c).k), false), (decide ((N.fr c).k < (toF 0).k), false), (false, false), (false, false),
   (N.rt ⟨N.fr c, N.fr c⟩, true), (N.rt ⟨one64, one64⟩, true), (N.w c, true), (N.u a, true), (N.u b, true)]
def w32 (n : Int) : Bool := decide (0 ≤ n ∧ n ≤ 4294967295)
def KoR : Ko := ⟨dV (KqR atR), unI, uB, fracF, w32, rt, KTR.sub, KTR.mul, KTR.sqr, KTR.num⟩
theorem part_ok {t : F} (h0 : 0 ≤ t.q) (h1 : t.q ≤ 1) : ∃ r, oPart KoR t = (r, 0) ∧ Mem r (1 - t.q * t.q) := by
  have tU : U01 ⟨t, t⟩ := ⟨h0, Rat.le_refl, h1⟩
  have oU : U01 ⟨one64, one64⟩ := ⟨by show 0 ≤ one64.q; rw [one_q]; grind, Rat.le_refl, by show one64.q ≤ 1; rw [one_q]; exact Rat.le_refl⟩
  have tI : In1 ⟨t, t⟩ := ⟨q_le.1 (by rw [mone_q]; show -1 ≤ t.q; grind), q_le.1 (by rw [one_q]; exact h1), Int.le_refl _⟩
  obtain ⟨s, e1, su, sm⟩ := sqr_in tI
  obtain ⟨d, e2, d1, d2⟩ := cSub_ok oU.sm su.sm
  have md := sub_mem (x := 1) (y := t.q * t.q) d1 d2 ⟨by show one64.q ≤ 1; rw [one_q]; exact Rat.le_refl, by show 1 ≤ one64.q; rw [one_q]; exact Rat.le_refl⟩ (sm _ ⟨Rat.le_refl, Rat.le_refl⟩)
  simp only [one_q] at d1 d2
  have s1 := su.lo; have s2 := su.rt; have s3 := su.hi
  have dU : U01 d := by
    refine ⟨?_, Rat.le_trans md.lo md.hi, ?_⟩
    · rw [← q_zero]; exact d1.top F.zero (by rw [q_zero]; grind)
    · rw [← one_q]; exact d2.bot one64 (by rw [one_q]; grind)
  obtain ⟨r, e3, hr⟩ := cMul_ok oU.sm dU.sm
  have mr := mul_mem hr (x := 1) ⟨by show one64.q ≤ 1; rw [one_q]; exact Rat.le_refl, by show 1 ≤ one64.q; rw [one_q]; exact Rat.le_refl⟩ md
  refine ⟨r, ?_, ?_⟩
  · have f0 : oOne KoR = (⟨one64, one64⟩, 0) := cNum_ok one64
    have f1 : oSq KoR t = (s, 0) := by unfold oSq; rw [f0]; exact e1
    have f2 : oSb KoR t = (d, 0) := by unfold oSb; rw [f1, f0]; exact e2
    unfold oPart; rw [f2]; exact e3
  · rwa [Rat.one_mul] at mr
theorem coOb_ok {a b c : Int} (h0 : 0 ≤ a) (h1 : a ≤ 18446744073709551615) (g0 : 0 ≤ b) (g1 : b ≤ 18446744073709551615) (c0 : 0 ≤ c) (c1 : c ≤ 4294967295) :
    obsB (coOb KoR a b c (decide ((oPart KoR (fracF c)).1.lo.k ≤ (unI a).hi.k)) (decide ((unI a).lo.k ≤ (oPart KoR (fracF c)).1.hi.k))) = true := by
  obtain ⟨_, _, t0, t1⟩ := frac_ok c0 c1
  obtain ⟨r, e, hr⟩ := part_ok t0 t1
  obtain ⟨D, hD⟩ := draw_ok (a := a) (b := b) h0 h1
  have ez : (KoR.dv a b).2.2 = D.z := by show (dV (KqR atR) a b).2.2 = _; unfold dV; rw [hD.ez]; exact keptZ hD.zu
  have hU := unI_U a h0 h1
  have u1 := hU.lo; have u2 := hU.rt; have u3 := hU.hi
  have ub : ∀ n : Int, 0 ≤ n → n ≤ 18446744073709551615 → uB n = true := fun n h1 h2 => decide_eq_true ⟨h1, h2⟩
  have y : ∀ {c d : Bool} {r : Obs}, c = d → obsB r = true → obsB ((c, d) :: r) = true := fun h k => by unfold obsB at *; rw [List.all_cons, h, k, beq_self_eq_true]; rfl
  have both : ∀ {a b : Obs}, obsB a = true → obsB b = true → obsB (a ++ b) = true := fun ha hb => by unfold obsB at *; rw [List.all_append, ha, hb]; rfl
  have d1 := hD.d1.le; have d2 := hD.d2.ge; have z1 := hD.z1.le; have z2 := hD.z2.ge
  have z3 := hD.z1.nn; have z4 := hD.z2.nn
  have m1 := hr.lo; have m2 := hr.hi
  unfold coOb
  have ef : KoR.fr c = fracF c := rfl
  have eu : KoR.uo a = unI a := rfl
  rw [ez, ef, eu, e]
  simp only
  generalize fracF c = t at *
  refine both (both (both (both ?_ (y rfl rfl)) ?_) (y rfl rfl)) ?_
  · cases h : decide ((unI a).lo.k ≤ r.hi.k)
    · refine y (decide_eq_true (q_le.1 ?_)) rfl
      have k := of_decide_eq_false h
      have k2 := q_lt.2 (show r.hi.k < (unI a).lo.k by omega)
      exact sq_le' z3 t0 (by grind)
    · rfl
  · cases h : decide (r.lo.k ≤ (unI a).hi.k)
    · refine y (decide_eq_true (q_le.1 ?_)) rfl
      have k := of_decide_eq_false h
      have k2 := q_lt.2 (show (unI a).hi.k < r.lo.k by omega)
      exact sq_le' t0 z4 (by grind)
    · rfl
  · refine y (decide_eq_false (by have := q_le.1 u2; omega)) (y (ub a h0 h1) (y rfl (y (decide_eq_false ?_) (y (decide_eq_false ?_) (y rfl (y rfl (y (decide_eq_true (Int.le_refl _)) (y (decide_eq_true (Int.le_refl _)) (y (decide_eq_true ⟨c0, c1⟩) (y (ub a h0 h1) (y (ub b g0 g1) rfl)))))))))))
    · have := q_le.1 (show t.q ≤ one64.q by rw [one_q]; exact t1); omega
    · have := q_le.1 (show (toF 0).q ≤ t.q by rw [zero0_q]; exact t0); omega
end Bu
