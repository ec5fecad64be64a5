/- CosineRound, by the reckoner. -/
import Derived.Test.YtiipaicbbmkagaaHm
import Derived.Test.YtiipaicbbmkagaaIm
namespace Go.Proofs.Ytiipaicbbmkagaa
set_option linter.all false
open Go.RowKit Bu Rx

def OCR (N : Kx) : OracleF := lookO [(34, plainO (kDraw N.dv N.u)), (35, plainO (kOf N.uo N.u)), (14, plainO (kSC N.ib N.si N.co)), (37, plainO (oConst (.b true))), (24, kC (aII N.add)), (29, kC (aII N.mul)), (30, kC (aII N.sub)), (28, kC (aF N.num)), (25, kC (aI N.sqr))]
theorem oracleCR : OracleOk Try.prog (OCR KxR) := .cons drawG.of (.cons unitG.of (.cons scK.of (.cons awake12G.of (.cons addC (.cons mulC (.cons subC (.cons numC (.cons sqrC (.nil _)))))))))
theorem crRun (N : Kx) (a b : Int) : valR ((run Try.prog EG (OCR N) 80).1 7 [.si .u64 a, .si .u64 b] [] (some [true, true, true, true, true, true, true, true, true, true, true, true, true, true])) = some (.b true, some [], crOb N a b) := by kernel_rfl
theorem cosineRound_row (a b : Int) (ha : (Lit.int .u64 a).wf = true) (hb : (Lit.int .u64 b).wf = true) (w : World) :
    Calls Try.prog 7 #[.int .u64 a, .int .u64 b] w fun e w' => e = .returned (.bool true) ∧ Below w.heap.size w w' := by
  have ga := u64_in ha
  have gb := u64_in hb
  exact calls_of_val goodG oracleCR 80 (crRun KxR a b) (ObsOk.of_B (crOb_ok ga.1 ga.2 gb.1 gb.2)) rfl rfl w
end Go.Proofs.Ytiipaicbbmkagaa
