/- The document's examples of layer 4, by the reckoner. -/
import Derived.Test.YtmhhopfffeijnaaGreatHf
import Derived.Test.YtmhhopfffeijnaaGreatHd
import Derived.Test.YtmhhopfffeijnaaGreatIg
namespace Go.Proofs.YtmhhopfffeijnaaGreat
set_option linter.all false
open Go.RowKit Bu Rx

theorem sameRun0 (a b c d : F) : valR ((run Tryz.prog EG OIM 60).1 8 [.agg [.fl a, .fl b], .agg [.fl c, .fl d]] [] (some [false])) = some (.b false, some [], [(sameW a c, false)]) := by kernel_rfl
theorem sameRun1 (a b c d : F) (h : Bool) : valR ((run Tryz.prog EG OIM 60).1 8 [.agg [.fl a, .fl b], .agg [.fl c, .fl d]] [] (some [true, h])) = some (.b h, some [], [(sameW b d, h), (sameW a c, true)]) := by cases h <;> kernel_rfl
theorem sameG : PlainOk Tryz.prog 8 oSame := by
  intro args ds x ds' ob h ho
  unfold oSame at h
  split at h
  · rename_i a b c d
    simp only [Option.map_eq_some_iff, Prod.mk.injEq] at h
    obtain ⟨⟨r, e, o⟩, h1, rfl, rfl, rfl⟩ := h
    have hd : r = (sameW a c && sameW b d) := takeB_ok h1 ho
    refine ⟨[.agg #[.float .f64 a.b, .float .f64 b.b], .agg #[.float .f64 c.b, .float .f64 d.b]], .bool r, rfl, rfl, fun w => ?_⟩
    cases g1 : sameW a c
    · rw [g1, Bool.false_and] at hd; subst hd
      exact calls_of_val goodG oracleIM 60 (sameRun0 a b c d) (ObsOk.of_B (obsB_yes g1 obsB_nil)) rfl rfl w
    · rw [g1, Bool.true_and] at hd; subst hd
      exact calls_of_val goodG oracleIM 60 (sameRun1 a b c d _) (ObsOk.of_B (obsB_yes rfl (obsB_yes g1 obsB_nil))) rfl rfl w
  · cases h
def OEX (f : F → I × I) : OracleF := lookO [(6, plainO (oSC f)), (8, plainO oSame)]
theorem oracleEX : OracleOk Tryz.prog (OEX atR) := .cons scG.of (.cons sameG.of (.nil _))
theorem exRun0 (f : F → I × I) (x s c : F) : valR ((run Tryz.prog EG (OEX f) 60).1 34 [.fl x, .fl s, .fl c] [] (some [false])) = some (.b false, some [], [(inB x x, false)]) := by kernel_rfl
theorem exRun1 (f : F → I × I) (x s c : F) : valR ((run Tryz.prog EG (OEX f) 60).1 34 [.fl x, .fl s, .fl c] [] (some [true, false])) = some (.b false, some [], [(sameI (sinM f x x) ⟨s, s⟩, false), (inB x x, true)]) := by kernel_rfl
theorem exRun2 (f : F → I × I) (x s c : F) (h : Bool) : valR ((run Tryz.prog EG (OEX f) 60).1 34 [.fl x, .fl s, .fl c] [] (some [true, true, h])) = some (.b h, some [], [(sameI (cosM f x x) ⟨c, c⟩, h), (sameI (sinM f x x) ⟨s, s⟩, true), (inB x x, true)]) := by cases h <;> kernel_rfl
theorem exactG : PlainOk Tryz.prog 34 (oExact atR) := by
  intro args ds x ds' ob h ho
  unfold oExact at h
  split at h
  · rename_i x s c
    simp only [Option.map_eq_some_iff, Prod.mk.injEq] at h
    obtain ⟨⟨r, e, o⟩, h1, rfl, rfl, rfl⟩ := h
    have hd : r = exactB atR x s c := takeB_ok h1 ho
    refine ⟨[.float .f64 x.b, .float .f64 s.b, .float .f64 c.b], .bool r, rfl, rfl, fun w => ?_⟩
    unfold exactB at hd
    cases g1 : inB x x
    · rw [g1, Bool.false_and, Bool.false_and] at hd; subst hd
      exact calls_of_val goodG oracleEX 60 (exRun0 atR x s c) (ObsOk.of_B (obsB_yes g1 obsB_nil)) rfl rfl w
    · cases g2 : sameI (sinM atR x x) ⟨s, s⟩
      · rw [g1, g2, Bool.true_and, Bool.false_and] at hd; subst hd
        exact calls_of_val goodG oracleEX 60 (exRun1 atR x s c) (ObsOk.of_B (obsB_yes g2 (obsB_yes g1 obsB_nil))) rfl rfl w
      · rw [g1, g2, Bool.true_and, Bool.true_and] at hd; subst hd
        exact calls_of_val goodG oracleEX 60 (exRun2 atR x s c _) (ObsOk.of_B (obsB_yes rfl (obsB_yes g2 (obsB_yes g1 obsB_nil)))) rfl rfl w
  · cases h

def OAW (f : F → I × I) : OracleF := lookO [(6, plainO (oSC f)), (8, plainO oSame), (34, plainO (oExact f))]
theorem oracleAW : OracleOk Tryz.prog (OAW atR) := .cons scG.of (.cons sameG.of (.cons exactG.of (.nil _)))
theorem awakeRun (f : F → I × I) : valR ((run Tryz.prog EG (OAW f) 60).1 9 [] [] (some [true, true, false, true, true, true, true, true, true, true, true])) = some (.b true, some [], awakeOb f) := by kernel_rfl
theorem awakeG : PlainOk Tryz.prog 9 (oConst (.b true)) := constG rfl fun w => calls_of_val goodG oracleAW 60 (awakeRun atR) (ObsOk.of_B awake_ok) rfl rfl w
theorem sameK : PlainOk Tryz.prog 8 (kBII (NR atR).sa) := sameG
theorem exactK : PlainOk Tryz.prog 34 (kB3 (NR atR).ex) := exactG
end Go.Proofs.YtmhhopfffeijnaaGreat
