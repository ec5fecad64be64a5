/- burnishref01.Sqrt rounds to the side. -/
import Derived.Test.YtmhhopfffeijnaaGreatNr
import Derived.Test.YtmhhopfffeijnaaGreatNx
import Derived.Test.YtmhhopfffeijnaaGreatHl
namespace Go.Proofs.YtmhhopfffeijnaaGreat
set_option linter.all false
open Go.RowKit Bu Rx

def rtN (x : F) : F := toF ((Ieee.double.sqrt x.b).getD 0)
def sqEnd (a : F) (o : Option Nat) (t : Obs) : Obs := (o.isSome, true) :: (rightB (o.getD 0), true) :: t
def sqTl (a : F) (e : Int) (d : Bool) : Obs := [(!(e.tmod 2 == 0), d), (!decide (a.k = 0), true), (decide (a.k = (toF 0).k), false), (decide (a.k < (toF 0).k), false)]
def hlF (f : F) : F := dN f (toF 4611686018427387904)
def hlO (f : F) (t : Obs) : Obs := ((Ieee.double.div f.b (toF 4611686018427387904).b).isSome, true) :: (rightB ((Ieee.double.div f.b (toF 4611686018427387904).b).getD 0), true) :: t
theorem rqRun1 (K : Kf) (a : F) (up : Bool) : valR ((run Tryz.prog EH (OMu K) 80).1 122 [.fl a, .b up] [] (some [false, false, false, true])) =
    some (sdD (toF (K.L (rtN (K.fr a)) (wrp ((K.ex a).tdiv 2)))) (fW (toF (K.L (toF (K.L (rtN (K.fr a)) (wrp ((K.ex a).tdiv 2)))) (-(wrp ((K.ex a).tdiv 2))))).neg.b (toF (K.L (toF (K.L (rtN (K.fr a)) (wrp ((K.ex a).tdiv 2)))) (-(wrp ((K.ex a).tdiv 2))))).b (K.fr a).b) up, some [],
      mu1 K (rtN (K.fr a)) (wrp ((K.ex a).tdiv 2)) (toF (K.L (rtN (K.fr a)) (wrp ((K.ex a).tdiv 2)))) (toF (K.L (toF (K.L (rtN (K.fr a)) (wrp ((K.ex a).tdiv 2)))) (-(wrp ((K.ex a).tdiv 2))))).neg.b (toF (K.L (toF (K.L (rtN (K.fr a)) (wrp ((K.ex a).tdiv 2)))) (-(wrp ((K.ex a).tdiv 2))))).b (K.fr a).b (sqEnd a (Ieee.double.sqrt (K.fr a).b) (sqTl a (K.ex a) false))) := by kernel_rfl
theorem rqRun2 (K : Kf) (a : F) (up : Bool) : valR ((run Tryz.prog EH (OMu K) 80).1 122 [.fl a, .b up] [] (some [false, false, true, true])) =
    some (sdD (toF (K.L (rtN (hlF (K.fr a))) (wrp ((wrp (K.ex a + 1)).tdiv 2)))) (fW (toF (K.L (toF (K.L (rtN (hlF (K.fr a))) (wrp ((wrp (K.ex a + 1)).tdiv 2)))) (-(wrp ((wrp (K.ex a + 1)).tdiv 2))))).neg.b (toF (K.L (toF (K.L (rtN (hlF (K.fr a))) (wrp ((wrp (K.ex a + 1)).tdiv 2)))) (-(wrp ((wrp (K.ex a + 1)).tdiv 2))))).b (hlF (K.fr a)).b) up, some [],
      mu1 K (rtN (hlF (K.fr a))) (wrp ((wrp (K.ex a + 1)).tdiv 2)) (toF (K.L (rtN (hlF (K.fr a))) (wrp ((wrp (K.ex a + 1)).tdiv 2)))) (toF (K.L (toF (K.L (rtN (hlF (K.fr a))) (wrp ((wrp (K.ex a + 1)).tdiv 2)))) (-(wrp ((wrp (K.ex a + 1)).tdiv 2))))).neg.b (toF (K.L (toF (K.L (rtN (hlF (K.fr a))) (wrp ((wrp (K.ex a + 1)).tdiv 2)))) (-(wrp ((wrp (K.ex a + 1)).tdiv 2))))).b (hlF (K.fr a)).b (sqEnd a (Ieee.double.sqrt (hlF (K.fr a)).b) (hlO (K.fr a) (sqTl a (K.ex a) true)))) := by kernel_rfl
theorem rqRun0 (K : Kf) (a : F) (up : Bool) : valR ((run Tryz.prog EH (OMu K) 80).1 122 [.fl a, .b up] [] (some [true])) = some (.tup [.fl F.zero, .i .i64 12], some [], [(decide (a.k < (toF 0).k), true)]) := by kernel_rfl
theorem rqRun0' (K : Kf) (a : F) (up : Bool) : valR ((run Tryz.prog EH (OMu K) 80).1 122 [.fl a, .b up] [] (some [false, true])) = some (.tup [.fl F.zero, .i .i64 0], some [], [(decide (a.k = (toF 0).k), true), (decide (a.k < (toF 0).k), false)]) := by kernel_rfl
theorem rsqrt_1 {K : Kf} (hO : OracleOk Tryz.prog (OMu K)) {a c D d : F} {h : Int} (ha : 0 < a.k) (he : K.ex a = 2 * h) (b1 : -600 ≤ h) (b2 : h ≤ 600) {r : Bool → F × Int} (R : RootR K.L (K.fr a) h r c D d) (up : Bool) (w : World) :
    Calls Tryz.prog 122 #[.float .f64 a.b, .bool up] w fun e w' => e = .returned (.tuple #[.float .f64 (r up).1.b, .int .i64 (r up).2]) ∧ Below w.heap.size w w' := by
  have ec : rtN (K.fr a) = c := by unfold rtN; rw [R.s]; exact toF_F c
  have en : wrp ((K.ex a).tdiv 2) = h := by rw [he, Int.mul_tdiv_cancel_left _ (by decide)]; exact wrp_eq (by omega) (by omega)
  have em : (!((K.ex a).tmod 2 == 0)) = false := by rw [he, Int.mul_tmod_right]; rfl
  have eD : toF (K.L c h) = D := by rw [R.l]; exact toF_F D
  have ey : toF (K.L D (-h)) = c := by rw [R.b]; exact toF_F c
  obtain ⟨f1, f2⟩ := fW_F R.m
  have hr := rqRun1 K a up
  unfold mu1 at hr
  rw [ec, en, eD, ey, f1] at hr
  have z1 : nzB (K.L c h) = true := by rw [R.l]; exact nz_F R.dn
  have z2 : nzB (K.L D (-h)) = true := by rw [R.b]; exact nz_F R.cn
  refine calls_of_val goodH hO 80 hr (ObsOk.of_B (obsB_yes (by rw [right_F, Bool.true_or]) (obsB_yes f2 (obsB_yes (by rw [decide_eq_false R.cn]; rfl) (obsB_yes z2 (obsB_yes (decide_eq_true (by omega)) (obsB_yes z1 (obsB_yes (by rw [R.s]; rfl) (obsB_yes (by rw [R.s]; exact right_F c) (obsB_yes em (obsB_yes (by rw [decide_eq_false (by omega)]; rfl) (obsB_yes (k_ne0 (by omega)) (obsB_yes (by rw [zero_k']; exact decide_eq_false (by omega)) obsB_nil))))))))))))) rfl (plain_sdS (by rw [dF_F]; exact R.r up)) w
theorem rsqrt_2 {K : Kf} (hO : OracleOk Tryz.prog (OMu K)) {a c D d f : F} {h : Int} (ha : 0 < a.k) (hf : Ieee.double.div (K.fr a).b twoF.b = some f.b) (he : K.ex a = 2 * h - 1) (b1 : -600 ≤ h) (b2 : h ≤ 600) {r : Bool → F × Int} (R : RootR K.L f h r c D d) (up : Bool) (w : World) :
    Calls Tryz.prog 122 #[.float .f64 a.b, .bool up] w fun e w' => e = .returned (.tuple #[.float .f64 (r up).1.b, .int .i64 (r up).2]) ∧ Below w.heap.size w w' := by
  have hf' : Ieee.double.div (K.fr a).b (toF 4611686018427387904).b = some f.b := hf
  have eh : hlF (K.fr a) = f := by unfold hlF dN; rw [hf']; exact toF_F f
  have ec : rtN f = c := by unfold rtN; rw [R.s]; exact toF_F c
  have en : wrp ((wrp (K.ex a + 1)).tdiv 2) = h := by rw [he, show 2 * h - 1 + 1 = 2 * h by omega, wrp_eq (n := 2 * h) (by omega) (by omega), Int.mul_tdiv_cancel_left _ (by decide)]; exact wrp_eq (by omega) (by omega)
  have em : (!((K.ex a).tmod 2 == 0)) = true := by
    cases g : ((K.ex a).tmod 2 == 0)
    · rfl
    · have g := Int.dvd_of_tmod_eq_zero (eq_of_beq g)
      omega
  have eD : toF (K.L c h) = D := by rw [R.l]; exact toF_F D
  have ey : toF (K.L D (-h)) = c := by rw [R.b]; exact toF_F c
  obtain ⟨f1, f2⟩ := fW_F R.m
  have hr := rqRun2 K a up
  unfold mu1 at hr
  rw [eh, ec, en, eD, ey, f1] at hr
  have z1 : nzB (K.L c h) = true := by rw [R.l]; exact nz_F R.dn
  have z2 : nzB (K.L D (-h)) = true := by rw [R.b]; exact nz_F R.cn
  refine calls_of_val goodH hO 80 hr (ObsOk.of_B (obsB_yes (by rw [right_F, Bool.true_or]) (obsB_yes f2 (obsB_yes (by rw [decide_eq_false R.cn]; rfl) (obsB_yes z2 (obsB_yes (decide_eq_true (by omega)) (obsB_yes z1 (obsB_yes (by rw [R.s]; rfl) (obsB_yes (by rw [R.s]; exact right_F c) (obsB_yes (by rw [hf']; rfl) (obsB_yes (by rw [hf']; exact right_F f) (obsB_yes em (obsB_yes (by rw [decide_eq_false (by omega)]; rfl) (obsB_yes (k_ne0 (by omega)) (obsB_yes (by rw [zero_k']; exact decide_eq_false (by omega)) obsB_nil))))))))))))))) rfl (plain_sdS (by rw [dF_F]; exact R.r up)) w
theorem sc_half {a f g : F} {h : Int} (hs : Sc f a (2 * h - 1)) (hg : g.z.natAbs * 2 = f.z.natAbs) (ha : 0 < a.k) (hp : 0 < g.k) : Sc g a (2 * h) := by
  have h1 := Sc_abs hs
  refine sc_mk ?_ (by omega)
  rcases (show 1 ≤ h ∨ h ≤ 0 by omega) with c | c
  · rw [show (-(2 * h - 1)).toNat = 0 by omega, ← hg] at h1
    rw [show (-(2 * h)).toNat = 0 by omega, show (2 * h).toNat = (2 * h - 1).toNat + 1 by omega, Nat.pow_succ, h1]
    generalize 2 ^ (2 * h - 1).toNat = x
    grind
  · rw [show (-(2 * h - 1)).toNat = (-(2 * h)).toNat + 1 by omega, show (2 * h - 1).toNat = 0 by omega, ← hg, Nat.pow_succ] at h1
    rw [show (2 * h).toNat = 0 by omega]
    rw [Nat.pow_zero, Nat.mul_one, ← Nat.mul_assoc] at h1
    rw [Nat.pow_zero, Nat.mul_one]
    exact Nat.eq_of_mul_eq_mul_right (by decide) h1
theorem rsqrt_F (a : F) (up : Bool) (w : World) : Calls Tryz.prog 122 #[.float .f64 a.b, .bool up] w fun e w' => e = .returned (.tuple #[.float .f64 (qSqrt up a).1.b, .int .i64 (qSqrt up a).2]) ∧ Below w.heap.size w w' := by
  unfold qSqrt
  by_cases h1 : a.k < 0
  · rw [if_pos h1]
    exact calls_of_val goodH oracleMu 80 (rqRun0 KfR a up) (ObsOk.of_B (obsB_yes (by rw [zero_k']; exact decide_eq_true h1) obsB_nil)) rfl rfl w
  · rw [if_neg h1]
    by_cases h2 : a.k = 0
    · rw [if_pos h2]
      exact calls_of_val goodH oracleMu 80 (rqRun0' KfR a up) (ObsOk.of_B (obsB_yes (by rw [zero_k']; exact decide_eq_true h2) (obsB_yes (by rw [zero_k']; exact decide_eq_false h1) obsB_nil))) rfl rfl w
    · rw [if_neg h2]
      have ha : 0 < a.k := by omega
      obtain ⟨fa, sa, ka, la, ua⟩ := fr_ok h2
      have hp : 0 < (frF a).k := by
        have s1 := sc_sign sa
        have s2 := z_sign a
        have s3 := z_sign (frF a)
        omega
      obtain ⟨h, hh⟩ : ∃ h : Int, exF a = 2 * h ∨ exF a = 2 * h - 1 := by
        rcases (show exF a % 2 = 0 ∨ exF a % 2 = 1 by omega) with g | g
        · exact ⟨exF a / 2, .inl (by omega)⟩
        · exact ⟨(exF a + 1) / 2, .inr (by omega)⟩
      rcases hh with hh | hh
      · obtain ⟨m, q⟩ := frQ_0 fa hp
        obtain ⟨c, D, d, R⟩ := root_side (h := h) ha q (by rw [← hh]; exact sa) (by omega) (by omega)
        exact rsqrt_1 (K := KfR) oracleMu ha hh (by omega) (by omega) R up w
      · obtain ⟨m, q, _, hz⟩ := frQ_1 fa hp
        obtain ⟨c, D, d, R⟩ := root_side (h := h) ha q (sc_half (by rw [← hh]; exact sa) hz ha (hf_k fa hp).2.2) (by omega) (by omega)
        exact rsqrt_2 (K := KfR) oracleMu ha (half_div fa hp) hh (by omega) (by omega) R up w
theorem rsqrtG : PlainOk Tryz.prog 122 (kOne qSqrt) := by
  intro args ds x ds' ob h1 ho
  unfold kOne at h1
  split at h1
  · rename_i x up
    simp only [Option.some.injEq, Prod.mk.injEq] at h1
    obtain ⟨rfl, _, _⟩ := h1
    exact ⟨[.float .f64 x.b, .bool up], _, rfl, rfl, fun w => rsqrt_F x up w⟩
  · cases h1
end Go.Proofs.YtmhhopfffeijnaaGreat
