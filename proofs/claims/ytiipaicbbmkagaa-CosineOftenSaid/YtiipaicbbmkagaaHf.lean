/- Package trig by the reckoner: SinCos; and what its laws ask. -/
import Derived.Test.YtiipaicbbmkagaaHe
namespace Go.Proofs.Ytiipaicbbmkagaa
set_option linter.all false
open Go.RowKit Bu Rx

def OSI (f : F → I × I) : OracleF := lookO [(26, plainO oRt), (21, plainO oHas), (23, plainO (oI2 hullI)), (46, plainO (kAt f))]
theorem oracleSI : OracleOk Try.prog (OSI atR) := .cons irightG.of (.cons ihasG.of (.cons hullG.of (.cons atG.of (.nil _))))
def noSC : SV := .tup [.agg [.fl F.zero, .fl F.zero], .agg [.fl F.zero, .fl F.zero], .i .i64 2]
theorem scRun0 (f : F → I × I) (a b : F) : valR ((run Try.prog EG (OSI f) 100).1 14 [.agg [.fl a, .fl b]] [] (some [false])) = some (noSC, some [], [(rt ⟨a, b⟩, false)]) := by kernel_rfl
theorem scRun1 (f : F → I × I) (a b : F) : valR ((run Try.prog EG (OSI f) 100).1 14 [.agg [.fl a, .fl b]] [] (some [true, true])) = some (noSC, some [], [(decide (a.k < (toF 0).k), true), (rt ⟨a, b⟩, true)]) := by kernel_rfl
theorem scRun2 (f : F → I × I) (a b : F) : valR ((run Try.prog EG (OSI f) 100).1 14 [.agg [.fl a, .fl b]] [] (some [true, false, true])) = some (noSC, some [], [(decide (one64.k < b.k), true), (decide (a.k < (toF 0).k), false), (rt ⟨a, b⟩, true)]) := by kernel_rfl
theorem scRun3 (f : F → I × I) (a b : F) (h1 h2 h3 : Bool) : valR ((run Try.prog EG (OSI f) 100).1 14 [.agg [.fl a, .fl b]] [] (some [true, false, false, h1, h3, h2])) =
    some (.tup [.agg [.fl (sinT f h1 h3 a b).lo, .fl (sinT f h1 h3 a b).hi], .agg [.fl (cosT f h2 a b).lo, .fl (cosT f h2 a b).hi], .i .i64 0], some [],
      [(hasB ⟨a, b⟩ q2, h2), (hasB ⟨a, b⟩ q3, h3), (hasB ⟨a, b⟩ q1, h1), (decide (one64.k < b.k), false), (decide (a.k < (toF 0).k), false), (rt ⟨a, b⟩, true)]) := by cases h1 <;> cases h2 <;> cases h3 <;> kernel_rfl
theorem scG : PlainOk Try.prog 14 (oSC atR) := by
  intro args ds x ds' ob h ho
  unfold oSC at h
  split at h
  · rename_i a b
    simp only [Option.map_eq_some_iff, Prod.mk.injEq] at h
    obtain ⟨⟨d, e, o⟩, h1, rfl, rfl, rfl⟩ := h
    have hd : d = inB a b := takeB_ok h1 ho
    cases hi : inB a b
    · rw [hi] at hd; subst hd
      refine ⟨[.agg #[.float .f64 a.b, .float .f64 b.b]], _, rfl, rfl, fun w => ?_⟩
      cases g1 : rt ⟨a, b⟩
      · exact calls_of_val goodG oracleSI 100 (scRun0 atR a b) (ObsOk.of_B (obsB_yes g1 obsB_nil)) rfl rfl w
      · cases g2 : decide (a.k < (toF 0).k)
        · refine calls_of_val goodG oracleSI 100 (scRun2 atR a b) (ObsOk.of_B (obsB_yes ?_ (obsB_yes g2 (obsB_yes g1 obsB_nil)))) rfl rfl w
          have g3 := of_decide_eq_false g2
          unfold inB at hi
          rw [g1, show decide ((toF 0).k ≤ a.k) = true from decide_eq_true (by omega), Bool.true_and, Bool.true_and] at hi
          have g4 := of_decide_eq_false hi
          exact decide_eq_true (by omega)
        · exact calls_of_val goodG oracleSI 100 (scRun1 atR a b) (ObsOk.of_B (obsB_yes g2 (obsB_yes g1 obsB_nil))) rfl rfl w
    · rw [hi] at hd; subst hd
      refine ⟨[.agg #[.float .f64 a.b, .float .f64 b.b]], _, rfl, rfl, fun w => ?_⟩
      unfold inB at hi
      rw [Bool.and_eq_true, Bool.and_eq_true, decide_eq_true_iff, decide_eq_true_iff] at hi
      exact calls_of_val goodG oracleSI 100 (scRun3 atR a b _ _ _) (ObsOk.of_B (obsB_yes rfl (obsB_yes rfl (obsB_yes rfl (obsB_yes (decide_eq_false (by omega)) (obsB_yes (decide_eq_false (by omega)) (obsB_yes hi.1.1 obsB_nil))))))) rfl rfl w
  · cases h
/-! what the laws ask -/
theorem sameRun0 (a b c d : F) : valR ((run Try.prog EG OIM 60).1 22 [.agg [.fl a, .fl b], .agg [.fl c, .fl d]] [] (some [false])) = some (.b false, some [], [(sameW a c, false)]) := by kernel_rfl
theorem sameRun1 (a b c d : F) (h : Bool) : valR ((run Try.prog EG OIM 60).1 22 [.agg [.fl a, .fl b], .agg [.fl c, .fl d]] [] (some [true, h])) = some (.b h, some [], [(sameW b d, h), (sameW a c, true)]) := by cases h <;> kernel_rfl
theorem sameG : PlainOk Try.prog 22 oSame := by
  intro args ds x ds' ob h ho
  unfold oSame at h
  split at h
  · rename_i a b c d
    simp only [Option.map_eq_some_iff, Prod.mk.injEq] at h
    obtain ⟨⟨r, e, o⟩, h1, rfl, rfl, rfl⟩ := h
    have hd : r = (sameW a c && sameW b d) := takeB_ok h1 ho
    refine ⟨[.agg #[.float .f64 a.b, .float .f64 b.b], .agg #[.float .f64 c.b, .float .f64 d.b]], .bool r, rfl, rfl, fun w => ?_⟩
    cases g1 : sameW a c
    · rw [g1, Bool.false_and] at hd; subst hd
      exact calls_of_val goodG oracleIM 60 (sameRun0 a b c d) (ObsOk.of_B (obsB_yes g1 obsB_nil)) rfl rfl w
    · rw [g1, Bool.true_and] at hd; subst hd
      exact calls_of_val goodG oracleIM 60 (sameRun1 a b c d _) (ObsOk.of_B (obsB_yes rfl (obsB_yes g1 obsB_nil))) rfl rfl w
  · cases h
theorem fineRun0 (a b : F) : valR ((run Try.prog EG (OSI atR) 60).1 11 [.agg [.fl a, .fl b]] [] (some [false])) = some (.b false, some [], [(rt ⟨a, b⟩, false)]) := by kernel_rfl
theorem fineRun1 (a b : F) : valR ((run Try.prog EG (OSI atR) 60).1 11 [.agg [.fl a, .fl b]] [] (some [true, false])) = some (.b false, some [], [(decide ((toF 0).k ≤ a.k), false), (rt ⟨a, b⟩, true)]) := by kernel_rfl
theorem fineRun2 (a b : F) (h : Bool) : valR ((run Try.prog EG (OSI atR) 60).1 11 [.agg [.fl a, .fl b]] [] (some [true, true, h])) = some (.b h, some [], [(decide (b.k ≤ one64.k), h), (decide ((toF 0).k ≤ a.k), true), (rt ⟨a, b⟩, true)]) := by cases h <;> kernel_rfl
theorem fineG : PlainOk Try.prog 11 oFine := by
  intro args ds x ds' ob h ho
  unfold oFine at h
  split at h
  · rename_i a b
    simp only [Option.map_eq_some_iff, Prod.mk.injEq] at h
    obtain ⟨⟨r, e, o⟩, h1, rfl, rfl, rfl⟩ := h
    have hd : r = inB a b := takeB_ok h1 ho
    refine ⟨[.agg #[.float .f64 a.b, .float .f64 b.b]], .bool r, rfl, rfl, fun w => ?_⟩
    unfold inB at hd
    cases g1 : rt ⟨a, b⟩
    · rw [g1, Bool.false_and, Bool.false_and] at hd; subst hd
      exact calls_of_val goodG oracleSI 60 (fineRun0 a b) (ObsOk.of_B (obsB_yes g1 obsB_nil)) rfl rfl w
    · cases g2 : decide ((toF 0).k ≤ a.k)
      · rw [g1, g2, Bool.true_and, Bool.false_and] at hd; subst hd
        exact calls_of_val goodG oracleSI 60 (fineRun1 a b) (ObsOk.of_B (obsB_yes g2 (obsB_yes g1 obsB_nil))) rfl rfl w
      · rw [g1, g2, Bool.true_and, Bool.true_and] at hd; subst hd
        exact calls_of_val goodG oracleSI 60 (fineRun2 a b _) (ObsOk.of_B (obsB_yes rfl (obsB_yes g2 (obsB_yes g1 obsB_nil)))) rfl rfl w
  · cases h
def OEX (f : F → I × I) : OracleF := lookO [(14, plainO (oSC f)), (22, plainO oSame)]
theorem oracleEX : OracleOk Try.prog (OEX atR) := .cons scG.of (.cons sameG.of (.nil _))
theorem exRun0 (f : F → I × I) (x s c : F) : valR ((run Try.prog EG (OEX f) 60).1 20 [.fl x, .fl s, .fl c] [] (some [false])) = some (.b false, some [], [(inB x x, false)]) := by kernel_rfl
theorem exRun1 (f : F → I × I) (x s c : F) : valR ((run Try.prog EG (OEX f) 60).1 20 [.fl x, .fl s, .fl c] [] (some [true, false])) = some (.b false, some [], [(sameI (sinM f x x) ⟨s, s⟩, false), (inB x x, true)]) := by kernel_rfl
theorem exRun2 (f : F → I × I) (x s c : F) (h : Bool) : valR ((run Try.prog EG (OEX f) 60).1 20 [.fl x, .fl s, .fl c] [] (some [true, true, h])) = some (.b h, some [], [(sameI (cosM f x x) ⟨c, c⟩, h), (sameI (sinM f x x) ⟨s, s⟩, true), (inB x x, true)]) := by cases h <;> kernel_rfl
theorem exactG : PlainOk Try.prog 20 (oExact atR) := by
  intro args ds x ds' ob h ho
  unfold oExact at h
  split at h
  · rename_i x s c
    simp only [Option.map_eq_some_iff, Prod.mk.injEq] at h
    obtain ⟨⟨r, e, o⟩, h1, rfl, rfl, rfl⟩ := h
    have hd : r = exactB atR x s c := takeB_ok h1 ho
    refine ⟨[.float .f64 x.b, .float .f64 s.b, .float .f64 c.b], .bool r, rfl, rfl, fun w => ?_⟩
    unfold exactB at hd
    cases g1 : inB x x
    · rw [g1, Bool.false_and, Bool.false_and] at hd; subst hd
      exact calls_of_val goodG oracleEX 60 (exRun0 atR x s c) (ObsOk.of_B (obsB_yes g1 obsB_nil)) rfl rfl w
    · cases g2 : sameI (sinM atR x x) ⟨s, s⟩
      · rw [g1, g2, Bool.true_and, Bool.false_and] at hd; subst hd
        exact calls_of_val goodG oracleEX 60 (exRun1 atR x s c) (ObsOk.of_B (obsB_yes g2 (obsB_yes g1 obsB_nil))) rfl rfl w
      · rw [g1, g2, Bool.true_and, Bool.true_and] at hd; subst hd
        exact calls_of_val goodG oracleEX 60 (exRun2 atR x s c _) (ObsOk.of_B (obsB_yes rfl (obsB_yes g2 (obsB_yes g1 obsB_nil)))) rfl rfl w
  · cases h
end Go.Proofs.Ytiipaicbbmkagaa
