/- TrigHalves, by the reckoner. -/
import Derived.Test.YtiipaicbbmkagaaHr
import Derived.Test.YtiipaicbbmkagaaHl
import Derived.Test.YtiipaicbbmkagaaIz
namespace Go.Proofs.Ytiipaicbbmkagaa
set_option linter.all false
open Go.RowKit Bu Rx

def OTH (N : Kh) : OracleF := lookO [(14, plainO (kSC N.ib N.si N.co)), (11, plainO (kBI N.ib)), (12, plainO (oConst (.b true))), (16, plainO (kBII N.me)), (24, kC (aII N.add)), (30, kC (aII N.sub)), (29, kC (aII N.mul)), (32, kC (aII N.div)), (31, kC (aII N.max)), (25, kC (aI N.sqr)), (33, kC (aI N.sqrt)), (28, kC (aF N.num))]
theorem oracleTH : OracleOk Try.prog (OTH KhR) := .cons scK.of (.cons fineK.of (.cons awakeG.of (.cons meetG.of (.cons addC (.cons subC (.cons mulC (.cons divC (.cons cmax_I (.cons sqrC (.cons csqrt_I (.cons numC (.nil _))))))))))))
def thDs : List Bool := [true, false, true, true, true, true, false] ++ (List.replicate 20 [true, true, true, false]).flatten
theorem thRun (N : Kh) (a b : F) : valR ((run Try.prog EG (OTH N) 80).1 6 [.agg [.fl a, .fl b]] [] (some thDs)) = some (.b true, some [], hvO N a b) := by kernel_rfl
theorem thRun0 (N : Kh) (a b : F) : valR ((run Try.prog EG (OTH N) 80).1 6 [.agg [.fl a, .fl b]] [] (some [true, true])) = some (.b true, some [], [(decide (q2.k < b.k), true), (N.ib ⟨a, b⟩, true)]) := by kernel_rfl
theorem thRunN (N : Kh) (a b : F) : valR ((run Try.prog EG (OTH N) 80).1 6 [.agg [.fl a, .fl b]] [] (some [false])) = some (.b true, some [], [(N.ib ⟨a, b⟩, false)]) := by kernel_rfl
theorem thRunA (a b : Nat) : valR ((run Try.prog EG OTQ 80).1 6 [.agg [.f a, .f b]] [] (some [false])) = some (.b true, some [], [(Nat.blt a 18446744073709551616, true), (rightB a, false)]) := by kernel_rfl
theorem thRunB (a b : Nat) : valR ((run Try.prog EG OTQ 80).1 6 [.agg [.f a, .f b]] [] (some [true, false])) = some (.b true, some [], [(Nat.blt b 18446744073709551616, true), (rightB b, false), (rightB a, true)]) := by kernel_rfl
theorem trigHalves_row (a b : Nat) (ha : a < 18446744073709551616) (hb : b < 18446744073709551616) (w : World) :
    Calls Try.prog 6 #[.agg #[.float .f64 a, .float .f64 b]] w fun e w' => e = .returned (.bool true) ∧ Below w.heap.size w w' := by
  have la := Nat.blt_eq.mpr ha
  have lb := Nat.blt_eq.mpr hb
  cases h1 : rightB a
  · exact calls_of_val goodG oracleTQ 80 (thRunA a b) (ObsOk.of_B (obsB_yes la (obsB_yes h1 obsB_nil))) rfl rfl w
  · cases h2 : rightB b
    · exact calls_of_val goodG oracleTQ 80 (thRunB a b) (ObsOk.of_B (obsB_yes lb (obsB_yes h2 (obsB_yes h1 obsB_nil)))) rfl rfl w
    · obtain ⟨x, rfl⟩ := F_of_right h1
      obtain ⟨y, rfl⟩ := F_of_right h2
      cases h : inB x y
      · exact calls_of_val goodG oracleTH 80 (thRunN KhR x y) (ObsOk.of_B (obsB_yes h obsB_nil)) rfl rfl w
      · cases g : decide (q2.k < y.k)
        · refine calls_of_val goodG oracleTH 80 (thRun KhR x y) (ObsOk.of_B (hvO_ok h ?_)) rfl rfl w
          have := q_le.2 (show y.k ≤ q2.k by have := of_decide_eq_false g; omega)
          have g2 := consts.2.2.2.2.2.1
          grind
        · exact calls_of_val goodG oracleTH 80 (thRun0 KhR x y) (ObsOk.of_B (obsB_yes g (obsB_yes h obsB_nil))) rfl rfl w
end Go.Proofs.Ytiipaicbbmkagaa
