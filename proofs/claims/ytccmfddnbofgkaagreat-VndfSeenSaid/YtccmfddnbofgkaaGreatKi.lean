/- The laws of layer 13, by the reckoner. -/
import Derived.Test.YtccmfddnbofgkaaGreatKh
import Derived.Test.YtccmfddnbofgkaaGreatKj
namespace Go.Proofs.YtccmfddnbofgkaaGreat
set_option linter.all false
open Go.RowKit Bu Rx

def OLl (W : Kw) : List (Nat × OF) := OCL W.K ++ [(57, plainO (kSC W.N.ib W.N.si W.N.co)), (45, plainO (kOf W.N.uo W.N.u)), (18, plainO (kVd W.vd (drO W.N))), (21, plainO (kDn W.dn))] ++
  [(52, plainO (kUn W.un W.ub)), (17, plainO (kBw W.bw W.pb W.wu)), (28, plainO (kBII W.me)), (41, plainO kPt)]
def OL13 (W : Kw) : OracleF := lookO (OLl W)
def OL14 (W : Kw) : OracleF := lookO (OLl W ++ [(19, plainO (oConst (.b true)))])
theorem aw13Run (W : Kw) : valR ((run Tryz.prog EG (OL13 W) 80).1 19 [] [] (some [true, true, false, true, true, true, true, true, true, true, true, true, true, true, true, true, true, true])) = some (.b true, some [], aw13 W) := by kernel_rfl
def arr3 (a b c : Int) : SV := .agg [.si .u32 a, .si .u32 b, .si .u32 c]
/-! VndfFacing -/
/-! VndfSeen -/
theorem vsRun0 (W : Kw) (a b c v d e : Int) : valR ((run Tryz.prog EG (OL14 W) 80).1 3 [arr3 a b c, .si .u32 v, .si .u64 d, .si .u64 e] [] (some [true, true, true, true])) =
    some (.b true, some [], (decide ((W.vd (oneV W a b c) (alF W v) d e).2 = 11), true) :: vsO1 W a b c v d e) := by kernel_rfl
theorem vsRun1 (W : Kw) (a b c v d e : Int) : valR ((run Tryz.prog EG (OL14 W) 80).1 3 [arr3 a b c, .si .u32 v, .si .u64 d, .si .u64 e] [] (some [true, true, true, false, true])) =
    some (.b true, some [], (decide ((W.vd (oneV W a b c) (alF W v) d e).2 = 10), true) :: (decide ((W.vd (oneV W a b c) (alF W v) d e).2 = 11), false) :: vsO1 W a b c v d e) := by kernel_rfl
theorem vsRun2 (W : Kw) (a b c v d e : Int) (s : Bool) : valR ((run Tryz.prog EG (OL14 W) 80).1 3 [arr3 a b c, .si .u32 v, .si .u64 d, .si .u64 e] [] (some ([true, true, true, false, false, false, true, true, true, true, true, true, true, true, s] ++ (bif s then [] else [true])))) =
    some (.b true, some [], vsO2 W a b c v d e (W.vd (oneV W a b c) (alF W v) d e).1 (W.vd (oneV W a b c) (alF W v) d e).2 s) := by cases s <;> kernel_rfl
/-! VndfTurned -/
end Go.Proofs.YtccmfddnbofgkaaGreat
