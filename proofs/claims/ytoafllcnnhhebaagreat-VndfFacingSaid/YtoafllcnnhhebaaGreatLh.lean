/- VndfFacing: the walk, joined. -/
import Derived.Test.YtoafllcnnhhebaaGreatKv
import Derived.Test.YtoafllcnnhhebaaGreatLg
namespace Go.Proofs.YtoafllcnnhhebaaGreat
set_option linter.all false
open Go.RowKit Bu Rx

theorem vndfFacing_row (v d e : Int) (hv : (Lit.int .u32 v).wf = true) (hd : (Lit.int .u64 d).wf = true) (he : (Lit.int .u64 e).wf = true) (w : World) :
    Calls Tryz.prog 3 #[.int .u32 v, .int .u64 d, .int .u64 e] w fun e w' => e = .returned (.bool true) ∧ Below w.heap.size w w' :=
  calls_of_val goodG oracle14 80 (vfRun WR v d e) (ObsOk.of_B (vfO_ok (u32_13 hv) (u64_13 hd) (u64_13 he))) rfl rfl w
end Go.Proofs.YtoafllcnnhhebaaGreat
