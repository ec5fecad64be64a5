/- The examples of layer 12; CosineFalls, by the reckoner. -/
import Derived.Test.YtmhhopfffeijnaaGreatHm
namespace Go.Proofs.YtmhhopfffeijnaaGreat
set_option linter.all false
open Go.RowKit Bu Rx

/-! the examples -/
def OA2 (p : F → F → F → F → F → F → Bool) (md : F → F → F → F → F → F → F × F × F) (dv : Int → Int → I × I × I) (u : Int → Bool) : OracleF := lookO [(10, plainO (kDraw dv u)), (12, plainO (kMid p md))]
theorem oracleA2 : OracleOk Tryz.prog (OA2 rt3 midM (dV (KqR atR)) uB) := .cons drawG.of (.cons midG.of (.nil _))
theorem aw12Run (p : F → F → F → F → F → F → Bool) (md : F → F → F → F → F → F → F × F × F) (dv : Int → Int → I × I × I) (u : Int → Bool) : valR ((run Tryz.prog EG (OA2 p md dv u) 80).1 14 [] [] (some [true, true, true, true, true, true, true, true, true, true, true, true])) = some (.b true, some [], aw12 p md dv u) := by kernel_rfl
theorem awake12G : PlainOk Tryz.prog 14 (oConst (.b true)) := constG rfl fun w => calls_of_val goodG oracleA2 80 (aw12Run rt3 midM (dV (KqR atR)) uB) (ObsOk.of_B aw12_ok) rfl rfl w
/-! falls -/
end Go.Proofs.YtmhhopfffeijnaaGreat
