/- The laws of layer 13, by the reckoner. -/
import Derived.Test.YtoafllcnnhhebaaGreatKh
import Derived.Test.YtoafllcnnhhebaaGreatKj
namespace Go.Proofs.YtoafllcnnhhebaaGreat
set_option linter.all false
open Go.RowKit Bu Rx

def OLl (W : Kw) : List (Nat × OF) := OCL W.K ++ [(19, plainO (kSC W.N.ib W.N.si W.N.co)), (20, plainO (kOf W.N.uo W.N.u)), (17, plainO (kVd W.vd (drO W.N))), (27, plainO (kDn W.dn)), (18, plainO (kGg W.fg)), (55, plainO (kUn W.un W.ub)), (16, plainO (kBw W.bw W.pb W.wu)), (23, plainO (kBII W.me)), (49, plainO kPt)]
def OL13 (W : Kw) : OracleF := lookO (OLl W)
def OL14 (W : Kw) : OracleF := lookO (OLl W ++ [(24, plainO (oConst (.b true)))])
theorem aw13Run (W : Kw) : valR ((run Tryz.prog EG (OL13 W) 80).1 24 [] [] (some [true, true, false, true, true, true, true, true, true, true, true, true, true, true, true, true, true, true])) = some (.b true, some [], aw13 W) := by kernel_rfl
def arr3 (a b c : Int) : SV := .agg [.si .u32 a, .si .u32 b, .si .u32 c]
theorem alRun0 (W : Kw) (a b c d e : Int) : valR ((run Tryz.prog EG (OL14 W) 80).1 5 [arr3 a b c, .si .u64 d, .si .u64 e] [] (some [true, true, true, true])) =
    some (.b true, some [], (decide ((W.vd (oneV W a b c) (pt one64) d e).2 = 11), true) :: alO1 W a b c d e) := by kernel_rfl
theorem alRun1 (W : Kw) (a b c d e : Int) : valR ((run Tryz.prog EG (OL14 W) 80).1 5 [arr3 a b c, .si .u64 d, .si .u64 e] [] (some [true, true, true, false, true])) =
    some (.b true, some [], (decide ((W.vd (oneV W a b c) (pt one64) d e).2 = 10), true) :: (decide ((W.vd (oneV W a b c) (pt one64) d e).2 = 11), false) :: alO1 W a b c d e) := by kernel_rfl
theorem alRun2 (W : Kw) (a b c d e : Int) : valR ((run Tryz.prog EG (OL14 W) 80).1 5 [arr3 a b c, .si .u64 d, .si .u64 e] [] (some [true, true, true, false, false, true, true])) =
    some (.b true, some [], alO2 W a b c d e (W.vd (oneV W a b c) (pt one64) d e).1 (W.vd (oneV W a b c) (pt one64) d e).2 true) := by kernel_rfl
theorem alRun3 (W : Kw) (a b c d e : Int) : valR ((run Tryz.prog EG (OL14 W) 80).1 5 [arr3 a b c, .si .u64 d, .si .u64 e] [] (some [true, true, true, false, false, true, false, true, true, true])) =
    some (.b true, some [], alO3 W a b c d e (W.vd (oneV W a b c) (pt one64) d e).1 (W.vd (oneV W a b c) (pt one64) d e).2) := by kernel_rfl
/-! VndfFacing -/
theorem vfRun (W : Kw) (v d e : Int) : valR ((run Tryz.prog EG (OL14 W) 80).1 3 [.si .u32 v, .si .u64 d, .si .u64 e] [] (some [true, false, true, true, true, true, true])) =
    some (.b true, some [], vfO W v d e (W.vd upV (alF W v) d e).1 (W.vd upV (alF W v) d e).2) := by kernel_rfl
/-! VndfSeen -/
theorem vsRun0 (W : Kw) (a b c v d e : Int) : valR ((run Tryz.prog EG (OL14 W) 80).1 4 [arr3 a b c, .si .u32 v, .si .u64 d, .si .u64 e] [] (some [true, true, true, true])) =
    some (.b true, some [], (decide ((W.vd (oneV W a b c) (alF W v) d e).2 = 11), true) :: vsO1 W a b c v d e) := by kernel_rfl
theorem vsRun1 (W : Kw) (a b c v d e : Int) : valR ((run Tryz.prog EG (OL14 W) 80).1 4 [arr3 a b c, .si .u32 v, .si .u64 d, .si .u64 e] [] (some [true, true, true, false, true])) =
    some (.b true, some [], (decide ((W.vd (oneV W a b c) (alF W v) d e).2 = 10), true) :: (decide ((W.vd (oneV W a b c) (alF W v) d e).2 = 11), false) :: vsO1 W a b c v d e) := by kernel_rfl
theorem vsRun2 (W : Kw) (a b c v d e : Int) (s : Bool) : valR ((run Tryz.prog EG (OL14 W) 80).1 4 [arr3 a b c, .si .u32 v, .si .u64 d, .si .u64 e] [] (some ([true, true, true, false, false, false, true, true, true, true, true, true, true, true, s] ++ (bif s then [] else [true])))) =
    some (.b true, some [], vsO2 W a b c v d e (W.vd (oneV W a b c) (alF W v) d e).1 (W.vd (oneV W a b c) (alF W v) d e).2 s) := by cases s <;> kernel_rfl
/-! VndfTurned -/
theorem vtRun0 (W : Kw) (a b c v d e : Int) : valR ((run Tryz.prog EG (OL14 W) 80).1 6 [arr3 a b c, .si .u32 v, .si .u64 d, .si .u64 e] [] (some [true, true, true, true, true, false, true, false, true])) =
    some (.b true, some [], vtO0 W a b c v d e) := by kernel_rfl
theorem vtRun1 (W : Kw) (a b c v d e : Int) : valR ((run Tryz.prog EG (OL14 W) 80).1 6 [arr3 a b c, .si .u32 v, .si .u64 d, .si .u64 e] [] (some [true, true, true, true, true, false, false, true, false, false, true])) =
    some (.b true, some [], vtO1 W a b c v d e) := by kernel_rfl
end Go.Proofs.YtoafllcnnhhebaaGreat
