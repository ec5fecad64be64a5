/- Packages vec, ggx, vndf by the reckoner. -/
import Derived.Test.YtccmfddnbofgkaaGreatKb
import Derived.Test.YtccmfddnbofgkaaGreatKc
namespace Go.Proofs.YtccmfddnbofgkaaGreat
set_option linter.all false
open Go.RowKit Bu Rx

def OCL (K : Kk) : List (Nat × OF) := [(64, kC (aII K.add)), (65, kC (aII K.sub)), (37, kC (aII K.mul)), (34, kC (aII K.div)), (67, kC (aII K.max)), (66, kC (aI K.sqr)), (63, kC (aI K.sqrt)), (112, kC (aI K.neg)), (35, kC (aF K.num)), (97, plainO (kBI rt)), (118, plainO oRight), (117, plainO kAbs), (122, plainO (oI1 withI)), (36, plainO (oConst (.agg [.fl PIc.lo, .fl PIc.hi])))]
theorem absG : PlainOk Tryz.prog 117 kAbs := by
  intro args ds x ds' ob h ho
  unfold kAbs at h
  split at h
  · rename_i x
    simp only [Option.some.injEq, Prod.mk.injEq] at h
    obtain ⟨rfl, _, _⟩ := h
    exact ⟨[.float .f64 x.b], _, rfl, rfl, fun w => (abs_F x w).mono fun e w' ⟨h1, h2⟩ => ⟨h1, h2 ▸ Below.refl _ _⟩⟩
  · cases h
theorem vwRun0 (a b : F) : valR ((run Tryz.prog EG OIM 60).1 122 [.agg [.fl a, .fl b]] [] (some [true])) = some (.agg [.fl F.zero, .fl F.zero], some [], [(decide ((mnF b one64).k < (mxF a mone64).k), true)]) := by kernel_rfl
theorem vwRun1 (a b : F) : valR ((run Tryz.prog EG OIM 60).1 122 [.agg [.fl a, .fl b]] [] (some [false])) = some (.agg [.fl (mxF a mone64), .fl (mnF b one64)], some [], [(decide ((mnF b one64).k < (mxF a mone64).k), false)]) := by kernel_rfl
theorem vwG : PlainOk Tryz.prog 122 (oI1 withI) := by
  intro args ds x ds' ob h ho
  unfold oI1 at h
  split at h
  · rename_i a b
    simp only [Option.some.injEq, Prod.mk.injEq] at h
    obtain ⟨rfl, _, _⟩ := h
    refine ⟨[.agg #[.float .f64 a.b, .float .f64 b.b]], _, rfl, rfl, fun w => ?_⟩
    cases h1 : decide ((mnF b one64).k < (mxF a mone64).k)
    · rw [show withI ⟨a, b⟩ = ⟨mxF a mone64, mnF b one64⟩ from by simp only [withI, h1, cond_false]]
      exact calls_of_val goodG oracleIM 60 (vwRun1 a b) (ObsOk.of_B (obsB_yes h1 obsB_nil)) rfl rfl w
    · rw [show withI ⟨a, b⟩ = ⟨F.zero, F.zero⟩ from by simp only [withI, I.zero, h1, cond_true]]
      exact calls_of_val goodG oracleIM 60 (vwRun0 a b) (ObsOk.of_B (obsB_yes h1 obsB_nil)) rfl rfl w
  · cases h
def OPi : OracleF := lookO [(94, plainO (kNx nextF))]
theorem oraclePi : OracleOk Tryz.prog OPi := .cons nextG.of (.nil _)
def OPiK (f : F → Bool → F × Int) : OracleF := lookO [(94, plainO (kNx f))]
theorem piRun (f : F → Bool → F × Int) : valR ((run Tryz.prog EG (OPiK f) 60).1 36 [] [] (some [])) = some (.agg [.fl pi64, .fl (f pi64 true).1], some [], []) := by kernel_rfl
theorem piG : PlainOk Tryz.prog 36 (oConst (.agg [.fl PIc.lo, .fl PIc.hi])) := constG rfl fun w => calls_of_val goodG oraclePi 60 (piRun nextF) (ObsOk.of_B obsB_nil) rfl rfl w
theorem oracleCL : OracleOk Tryz.prog (lookO (OCL KkR)) := .cons addC (.cons subC (.cons mulC (.cons divC (.cons cmax_I (.cons sqrC (.cons csqrt_I (.cons negC (.cons numC (.cons irtK.of (.cons rightG.of (.cons absG.of (.cons vwG.of (.cons piG.of (.nil _))))))))))))))
end Go.Proofs.YtccmfddnbofgkaaGreat
