/- Package dir by names: the known functions are these. -/
import Derived.Test.YtiipaicbbmkagaaGb
import Derived.Test.YtiipaicbbmkagaaGk
namespace Go.Proofs.Ytiipaicbbmkagaa
set_option linter.all false
open Go.RowKit Bu Rx

theorem kParts_R : kParts KR = oParts := rfl
theorem kDown_R : kDown KR = oDown := rfl
theorem kRound_R : kRound KR = oRound := rfl
theorem kWadd_R : kWadd KR = oWadd := rfl
theorem kWsub_R : kWsub KR = oWsub := rfl
def OGK (K : Kd) : OracleF := lookO [(60, plainO oRight), (79, plainO (kParts K)), (82, plainO (kDown K)), (81, plainO (kRound K)), (83, plainO (kWadd K)), (84, plainO (kWsub K))]
theorem oracleGK : OracleOk Try.prog (OGK KR) := by
  unfold OGK
  rw [kParts_R, kDown_R, kRound_R, kWadd_R, kWsub_R]
  exact oracleG1
end Go.Proofs.Ytiipaicbbmkagaa
