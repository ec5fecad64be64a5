/- Package vndf by the reckoner: Draw, Density. -/
import Derived.Test.YtccmfddnbofgkaaGreatKf
namespace Go.Proofs.YtccmfddnbofgkaaGreat
set_option linter.all false
open Go.RowKit Bu Rx

def ODR (K : Kk) (N : Kq) : OracleF := lookO (OCL K ++ [(57, plainO (kSC N.ib N.si N.co)), (45, plainO (kOf N.uo N.u))])
def drA0 (v : V3) (al : I) (a b : Int) : List SV := [v.sv, ivS al, .si .u64 a, .si .u64 b]
def t13 : List Bool := [true, true, true, true, true, true, true, true, true, true, true, true, true]
/-- what comes ahead of the draw of the first number -/
def drOq (N : Kq) (v : V3) (al : I) (b : Int) : Obs := (N.ib (N.uo b), true) :: (N.u b, true) :: (dirO v ++ alO al)
theorem drRunA0 (K : Kk) (N : Kq) (v : V3) (al : I) (a b : Int) : valR ((run Tryz.prog EG (ODR K N) 80).1 18 (drA0 v al a b) [] (some (t13 ++ [true, true, false]))) =
    some (.tup [V3.zero.sv, .si .i64 (evalK K drTa (drEnv N v al a b) 0).2], some [], (decide ((evalK K drTa (drEnv N v al a b) 0).2 = 0), false) :: (neB (evalK K drTa (drEnv N v al a b) 0).2, true) :: (decide ((drQ K (drEnv N v al a b)).hi.k = z64.k), true) :: drOq N v al b) := by kernel_rfl
theorem drRunA1 (K : Kk) (N : Kq) (v : V3) (al : I) (a b : Int) : valR ((run Tryz.prog EG (ODR K N) 80).1 18 (drA0 v al a b) [] (some (t13 ++ [true, false, true]))) =
    some (.tup [V3.zero.sv, .si .i64 (evalK K drA (drEnv N v al a b) 0).2], some [], (neB (evalK K drA (drEnv N v al a b) 0).2, true) :: (N.u a, true) :: (neB (evalK K drTa (drEnv N v al a b) 0).2, false) :: (decide ((drQ K (drEnv N v al a b)).hi.k = z64.k), true) :: drOq N v al b) := by kernel_rfl
theorem drRunA2 (K : Kk) (N : Kq) (v : V3) (al : I) (a b : Int) : valR ((run Tryz.prog EG (ODR K N) 80).1 18 (drA0 v al a b) [] (some (t13 ++ [true, false, false]))) =
    some (.tup [(drV K drA (drEnv N v al a b)).sv, .i .i64 0], some [], (neB (evalK K drA (drEnv N v al a b) 0).2, false) :: (N.u a, true) :: (neB (evalK K drTa (drEnv N v al a b) 0).2, false) :: (decide ((drQ K (drEnv N v al a b)).hi.k = z64.k), true) :: drOq N v al b) := by kernel_rfl
theorem drRunB0 (K : Kk) (N : Kq) (v : V3) (al : I) (a b : Int) : valR ((run Tryz.prog EG (ODR K N) 80).1 18 (drA0 v al a b) [] (some (t13 ++ [false, true, true, false]))) =
    some (.tup [V3.zero.sv, .si .i64 (evalK K drTb (drEnv N v al a b) 0).2], some [], (decide ((evalK K drTb (drEnv N v al a b) 0).2 = 0), false) :: (neB (evalK K drTb (drEnv N v al a b) 0).2, true) :: (decide (z64.k < (drQ K (drEnv N v al a b)).lo.k), true) :: (decide ((drQ K (drEnv N v al a b)).hi.k = z64.k), false) :: drOq N v al b) := by kernel_rfl
theorem drRunB1 (K : Kk) (N : Kq) (v : V3) (al : I) (a b : Int) : valR ((run Tryz.prog EG (ODR K N) 80).1 18 (drA0 v al a b) [] (some (t13 ++ [false, true, false, true]))) =
    some (.tup [V3.zero.sv, .si .i64 (evalK K drB (drEnv N v al a b) 0).2], some [], (neB (evalK K drB (drEnv N v al a b) 0).2, true) :: (N.u a, true) :: (neB (evalK K drTb (drEnv N v al a b) 0).2, false) :: (decide (z64.k < (drQ K (drEnv N v al a b)).lo.k), true) :: (decide ((drQ K (drEnv N v al a b)).hi.k = z64.k), false) :: drOq N v al b) := by kernel_rfl
theorem drRunB2 (K : Kk) (N : Kq) (v : V3) (al : I) (a b : Int) : valR ((run Tryz.prog EG (ODR K N) 80).1 18 (drA0 v al a b) [] (some (t13 ++ [false, true, false, false]))) =
    some (.tup [(drV K drB (drEnv N v al a b)).sv, .i .i64 0], some [], (neB (evalK K drB (drEnv N v al a b) 0).2, false) :: (N.u a, true) :: (neB (evalK K drTb (drEnv N v al a b) 0).2, false) :: (decide (z64.k < (drQ K (drEnv N v al a b)).lo.k), true) :: (decide ((drQ K (drEnv N v al a b)).hi.k = z64.k), false) :: drOq N v al b) := by kernel_rfl
theorem drRunN0 (K : Kk) (N : Kq) (v : V3) (al : I) (a b : Int) : valR ((run Tryz.prog EG (ODR K N) 80).1 18 (drA0 v al a b) [] (some (t13 ++ [false, false, true, false]))) =
    some (.tup [V3.zero.sv, .si .i64 (evalK K drP1 (drEnv N v al a b) 0).2], some [], (decide ((evalK K drP1 (drEnv N v al a b) 0).2 = 0), false) :: (neB (evalK K drP1 (drEnv N v al a b) 0).2, true) :: (decide (z64.k < (drQ K (drEnv N v al a b)).lo.k), false) :: (decide ((drQ K (drEnv N v al a b)).hi.k = z64.k), false) :: drOq N v al b) := by kernel_rfl
theorem drRunN1 (K : Kk) (N : Kq) (v : V3) (al : I) (a b : Int) : valR ((run Tryz.prog EG (ODR K N) 80).1 18 (drA0 v al a b) [] (some (t13 ++ [false, false, false, true]))) =
    some (.tup [V3.zero.sv, .i .i64 11], some [], (decide ((evalK K drP1 (drEnv N v al a b) 0).2 = 0), true) :: (neB (evalK K drP1 (drEnv N v al a b) 0).2, false) :: (decide (z64.k < (drQ K (drEnv N v al a b)).lo.k), false) :: (decide ((drQ K (drEnv N v al a b)).hi.k = z64.k), false) :: drOq N v al b) := by kernel_rfl
/-- alpha beyond 1 -/
theorem drRunW (K : Kk) (N : Kq) (v : V3) (al : I) (a b : Int) : valR ((run Tryz.prog EG (ODR K N) 80).1 18 (drA0 v al a b) [] (some [true, true, false, true, true, true])) =
    some (.tup [V3.zero.sv, .i .i64 2], some [], [(rt v.z, true), (rt v.y, true), (rt v.x, true), (decide (al.hi.k ≤ one64.k), false), (decide (minA.k ≤ al.lo.k), true), (rt al, true)]) := by kernel_rfl
def ODn (K : Kk) (g d : I → I → I × Int) : OracleF := lookO (OCL K ++ [(71, plainO (kGg g)), (72, plainO (kGg d))])
end Go.Proofs.YtccmfddnbofgkaaGreat
