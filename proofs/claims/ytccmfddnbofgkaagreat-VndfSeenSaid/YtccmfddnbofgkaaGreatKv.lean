/- VndfAlong: the walk, joined. -/
import Derived.Test.YtccmfddnbofgkaaGreatKi
import Derived.Test.YtccmfddnbofgkaaGreatKu
namespace Go.Proofs.YtccmfddnbofgkaaGreat
set_option linter.all false
open Go.RowKit Bu Rx

theorem oracle13 : OracleOk Tryz.prog (OL13 WR) :=
  .cons addC <|
  .cons subC <|
  .cons mulC <|
  .cons divC <|
  .cons cmax_I <|
  .cons sqrC <|
  .cons csqrt_I <|
  .cons negC <|
  .cons numC <|
  .cons irtK.of <|
  .cons rightG.of <|
  .cons absG.of <|
  .cons vwG.of <|
  .cons piG.of <|
  .cons scK.of <|
  .cons unitG.of <|
  .cons drG.of <|
  .cons dnG.of <|
  .cons unG.of <|
  .cons bwG.of <|
  .cons meetsG.of <|
  .cons ptG.of <|
  .nil _
theorem awake13G : PlainOk Tryz.prog 19 (oConst (.b true)) := constG rfl fun w => calls_of_val goodG oracle13 80 (aw13Run WR) (ObsOk.of_B aw13_ok) rfl rfl w
theorem oracle14 : OracleOk Tryz.prog (OL14 WR) :=
  .cons addC <|
  .cons subC <|
  .cons mulC <|
  .cons divC <|
  .cons cmax_I <|
  .cons sqrC <|
  .cons csqrt_I <|
  .cons negC <|
  .cons numC <|
  .cons irtK.of <|
  .cons rightG.of <|
  .cons absG.of <|
  .cons vwG.of <|
  .cons piG.of <|
  .cons scK.of <|
  .cons unitG.of <|
  .cons drG.of <|
  .cons dnG.of <|
  .cons unG.of <|
  .cons bwG.of <|
  .cons meetsG.of <|
  .cons ptG.of <|
  .cons awake13G.of <|
  .nil _
theorem u32_13 {a : Int} (h : (Lit.int .u32 a).wf = true) : wN32 a = true := by
  refine decide_eq_true ?_
  simpa [Lit.wf, IntKind.min, IntKind.max, IntKind.signed, IntKind.bits] using h
theorem u64_13 {a : Int} (h : (Lit.int .u64 a).wf = true) : u64w a := by
  simpa [u64w, Lit.wf, IntKind.min, IntKind.max, IntKind.signed, IntKind.bits] using h
end Go.Proofs.YtccmfddnbofgkaaGreat
