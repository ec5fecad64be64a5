/- burnishref01: near, Mul, Div: they round to the side. -/
import Derived.Test.YtmhhopfffeijnaaGreatNm
import Derived.Test.YtmhhopfffeijnaaGreatNp
namespace Go.Proofs.YtmhhopfffeijnaaGreat
set_option linter.all false
open Go.RowKit Bu Rx

def kNear (L : F → Int → Nat) : List SV → Dec → Option (SV × Dec × Obs)
  | [.fl x, n], ds => match intS n with
    | some (.i64, k) => match takeB ds (nzB (L x k)) with
      | some (true, ds', ob) => some (.tup [.fl (toF (L x k)), .fl (toF (L (toF (L x k)) (-k)))], ds', (nzB (L (toF (L x k)) (-k)), true) :: (decide (-6000 ≤ k ∧ k ≤ 6000), true) :: ob)
      | some (false, ds', ob) => match takeB ds' (Nat.beq (L x k) INF || Nat.beq (L x k) NINF) with
        | some (true, ds2, ob2) => some (.tup [.f (L x k), .f 0], ds2, (badC (L x k), true) :: (decide (-6000 ≤ k ∧ k ≤ 6000), true) :: (ob2 ++ ob))
        | some (false, ds2, ob2) => some (.tup [.f (L x k), .f (L x k)], ds2, (badC (L x k), true) :: (decide (-6000 ≤ k ∧ k ≤ 6000), true) :: (ob2 ++ ob))
        | none => none
      | none => none
    | _ => none
  | _, _ => none
def OLn (L : F → Int → Nat) : OracleF := lookO [(166, plainO kInfC), (105, plainO (kLh L))]
theorem oracleLn : OracleOk Tryz.prog (OLn ldW) := .cons infKC.of (.cons lhK.of (.nil _))
def bd6 (k : Int) : Bool × Bool := (decide (-6000 ≤ k ∧ k ≤ 6000), true)
theorem nrRun1 (L : F → Int → Nat) (x : F) (k : Int) : valR ((run Tryz.prog EH (OLn L) 80).1 186 [.fl x, .si .i64 k] [] (some [true, true])) = some (.tup [.fl (toF (L x k)), .fl (toF (L (toF (L x k)) (IntKind.i64.wrap (0 - k))))], some [], [bd6 (IntKind.i64.wrap (0 - k)), (nzB (L (toF (L x k)) (IntKind.i64.wrap (0 - k))), true), (true, true), bd6 k, (nzB (L x k), true)]) := by kernel_rfl
theorem nrRun2 (L : F → Int → Nat) (x : F) (k : Int) : valR ((run Tryz.prog EH (OLn L) 80).1 186 [.fl x, .si .i64 k] [] (some [false, true])) = some (.tup [.f (L x k), .fl F.zero], some [], [(badC (L x k), true), (Nat.beq (L x k) INF || Nat.beq (L x k) NINF, true), bd6 k, (nzB (L x k), false)]) := by kernel_rfl
theorem nrRun3 (L : F → Int → Nat) (x : F) (k : Int) : valR ((run Tryz.prog EH (OLn L) 80).1 186 [.fl x, .si .i64 k] [] (some [false, false])) = some (.tup [.f (L x k), .f (L x k)], some [], [(Nat.beq (L x k) NEG0 || Nat.beq (L x k) 0, true), (badC (L x k), true), (Nat.beq (L x k) INF || Nat.beq (L x k) NINF, false), bd6 k, (nzB (L x k), false)]) := by kernel_rfl
theorem zero_b0 : F.zero.b = 0 := by decide
theorem nearK_of {L : F → Int → Nat} (hO : OracleOk Tryz.prog (OLn L)) : PlainOk Tryz.prog 186 (kNear L) := by
  intro args ds x ds' ob h ho
  unfold kNear at h
  split at h
  · rename_i x n
    split at h
    · rename_i k hk
      have pl : plains [.fl x, n] = some [.float .f64 x.b, .int .i64 k] := plains_cons rfl (plains_cons (intS_plain hk) plains_nil)
      split at h
      · rename_i ds1 ob1 h1
        simp only [Option.some.injEq, Prod.mk.injEq] at h; obtain ⟨rfl, _, rfl⟩ := h
        have o1 := ho _ (List.mem_cons_self ..)
        have o2 := of_decide_eq_true (ho _ (List.mem_cons_of_mem _ (List.mem_cons_self ..)))
        have o3 := (takeB_ok h1 (fun p hp => ho p (List.mem_cons_of_mem _ (List.mem_cons_of_mem _ hp)))).symm
        have ew : IntKind.i64.wrap (0 - k) = -k := by rw [IntKind.wrap_i64]; omega
        refine ⟨_, _, pl, rfl, fun w => ?_⟩
        have hr := nrRun1 L x k
        rw [ew] at hr
        exact calls_of_val goodH hO 80 hr (ObsOk.of_B (obsB_yes (decide_eq_true (by omega)) (obsB_yes o1 (obsB_yes rfl (obsB_yes (decide_eq_true o2) (obsB_yes o3 obsB_nil)))))) rfl rfl w
      · rename_i ds1 ob1 h1
        split at h
        · rename_i ds2 ob2 h2
          simp only [Option.some.injEq, Prod.mk.injEq] at h; obtain ⟨rfl, _, rfl⟩ := h
          have o1 := ho _ (List.mem_cons_self ..)
          have o2 := of_decide_eq_true (ho _ (List.mem_cons_of_mem _ (List.mem_cons_self ..)))
          have o34 : ObsOk (ob2 ++ ob1) := fun p hp => ho p (List.mem_cons_of_mem _ (List.mem_cons_of_mem _ hp))
          have o3 := (takeB_ok h1 o34.right).symm
          have o4 := (takeB_ok h2 o34.left).symm
          refine ⟨_, _, pl, rfl, fun w => ?_⟩
          have := calls_of_val goodH hO 80 (nrRun2 L x k) (ObsOk.of_B (obsB_yes o1 (obsB_yes o4 (obsB_yes (decide_eq_true o2) (obsB_yes o3 obsB_nil))))) rfl rfl w
          rw [zero_b0] at this
          exact this
        · rename_i ds2 ob2 h2
          simp only [Option.some.injEq, Prod.mk.injEq] at h; obtain ⟨rfl, _, rfl⟩ := h
          have o1 := ho _ (List.mem_cons_self ..)
          have o2 := of_decide_eq_true (ho _ (List.mem_cons_of_mem _ (List.mem_cons_self ..)))
          have o34 : ObsOk (ob2 ++ ob1) := fun p hp => ho p (List.mem_cons_of_mem _ (List.mem_cons_of_mem _ hp))
          have o3 := (takeB_ok h1 o34.right).symm
          have o4 := (takeB_ok h2 o34.left).symm
          have o5 : (Nat.beq (L x k) NEG0 || Nat.beq (L x k) 0) = true := by
            unfold badC badB at o1
            rw [Bool.or_eq_false_iff] at o4
            rw [o4.1, o4.2, Bool.false_or, Bool.false_or] at o1
            exact o1
          refine ⟨_, _, pl, rfl, fun w => ?_⟩
          exact calls_of_val goodH hO 80 (nrRun3 L x k) (ObsOk.of_B (obsB_yes o5 (obsB_yes o1 (obsB_yes o4 (obsB_yes (decide_eq_true o2) (obsB_yes o3 obsB_nil)))))) rfl rfl w
        · cases h
      · cases h
    · cases h
  · cases h
theorem nearK : PlainOk Tryz.prog 186 (kNear ldW) := nearK_of oracleLn
/-! ## Mul -/
def kFrN (fr : F → F) (ex : F → Int) : List SV → Dec → Option (SV × Dec × Obs)
  | [.fl x], ds => some (.tup [.fl (fr x), .si .i64 (ex x)], ds, [(!decide (x.k = 0), true)])
  | _, _ => none
structure Kf where
  fr : F → F
  ex : F → Int
  L : F → Int → Nat
def OMu (K : Kf) : OracleF := lookO [(97, plainO oRight), (185, plainO (kFrN K.fr K.ex)), (186, plainO (kNear K.L)), (188, plainO kSideD)]
def KfR : Kf := ⟨frF, exF, ldW⟩
theorem oracleMu : OracleOk Tryz.prog (OMu KfR) := .cons rRightP.of (.cons frK.of (.cons nearK.of (.cons sideKD.of (.nil _))))
def mN (x y : F) : F := toF ((Ieee.double.mul x.b y.b).getD 0)
def dN (x y : F) : F := toF ((Ieee.double.div x.b y.b).getD 0)
def fW (x y z : Nat) : Nat := (Ieee.double.fma x y z).getD 0
def sdD (D : F) (d : Nat) (up : Bool) : SV := sdS (sideF D (decide (0 < (dF d).k)) (decide ((dF d).k < 0)) up)
def sdW (v d : Nat) (up : Bool) : SV := sdS (sideW v (decide (0 < (dF d).k)) (decide ((dF d).k < 0)) up)
def muEnd (a b : F) (o : Option Nat) : Obs := [(o.isSome, true), (rightB (o.getD 0), true), (!decide (b.k = 0), true), (!decide (a.k = 0), true), (decide (b.k = (toF 0).k), false), (decide (a.k = (toF 0).k), false)]
def mu1 (K : Kf) (c0 : F) (n : Int) (D : F) (x y z : Nat) (r : Obs) : Obs := (rightB (fW x y z) || Nat.beq (fW x y z) NEG0, true) :: ((Ieee.double.fma x y z).isSome, true) :: (!decide ((toF (K.L D (-n))).k = 0), true) :: (nzB (K.L D (-n)), true) :: bd6 n :: (nzB (K.L c0 n), true) :: r
def mu2 (K : Kf) (c0 : F) (n : Int) (x y z : Nat) (i : Bool) (r : Obs) : Obs := (badC (K.L c0 n), true) :: (rightB (fW x y z), true) :: ((Ieee.double.fma x y z).isSome, true) :: (badC (K.L c0 n), true) :: bd6 n :: (Nat.beq (K.L c0 n) INF || Nat.beq (K.L c0 n) NINF, i) :: (nzB (K.L c0 n), false) :: r
def wrp (n : Int) : Int := IntKind.i64.wrap n
theorem muRun1 (K : Kf) (a b : F) (up : Bool) : valR ((run Tryz.prog EH (OMu K) 80).1 134 [.fl a, .fl b, .b up] [] (some [false, false, true])) =
    some (sdD (toF (K.L (mN (K.fr a) (K.fr b)) (wrp (K.ex a + K.ex b)))) (fW (K.fr a).b (K.fr b).b (toF (K.L (toF (K.L (mN (K.fr a) (K.fr b)) (wrp (K.ex a + K.ex b)))) (-(wrp (K.ex a + K.ex b))))).neg.b) up, some [],
      mu1 K (mN (K.fr a) (K.fr b)) (wrp (K.ex a + K.ex b)) (toF (K.L (mN (K.fr a) (K.fr b)) (wrp (K.ex a + K.ex b)))) (K.fr a).b (K.fr b).b (toF (K.L (toF (K.L (mN (K.fr a) (K.fr b)) (wrp (K.ex a + K.ex b)))) (-(wrp (K.ex a + K.ex b))))).neg.b (muEnd a b (Ieee.double.mul (K.fr a).b (K.fr b).b))) := by kernel_rfl
theorem muRun2 (K : Kf) (a b : F) (up : Bool) : valR ((run Tryz.prog EH (OMu K) 80).1 134 [.fl a, .fl b, .b up] [] (some [false, false, false, true])) =
    some (sdW (K.L (mN (K.fr a) (K.fr b)) (wrp (K.ex a + K.ex b))) (fW (K.fr a).b (K.fr b).b NEG0) up, some [],
      mu2 K (mN (K.fr a) (K.fr b)) (wrp (K.ex a + K.ex b)) (K.fr a).b (K.fr b).b NEG0 true (muEnd a b (Ieee.double.mul (K.fr a).b (K.fr b).b))) := by kernel_rfl
theorem muRun3 (K : Kf) (a b : F) (up : Bool) : valR ((run Tryz.prog EH (OMu K) 80).1 134 [.fl a, .fl b, .b up] [] (some [false, false, false, false])) =
    some (sdW (K.L (mN (K.fr a) (K.fr b)) (wrp (K.ex a + K.ex b))) (fW (K.fr a).b (K.fr b).b (Op.negFloat .f64 (K.L (mN (K.fr a) (K.fr b)) (wrp (K.ex a + K.ex b))))) up, some [],
      mu2 K (mN (K.fr a) (K.fr b)) (wrp (K.ex a + K.ex b)) (K.fr a).b (K.fr b).b (Op.negFloat .f64 (K.L (mN (K.fr a) (K.fr b)) (wrp (K.ex a + K.ex b)))) false (muEnd a b (Ieee.double.mul (K.fr a).b (K.fr b).b))) := by kernel_rfl
theorem muRun0 (K : Kf) (a b : F) (up : Bool) : valR ((run Tryz.prog EH (OMu K) 80).1 134 [.fl a, .fl b, .b up] [] (some [true])) = some (.tup [.fl F.zero, .i .i64 0], some [], [(decide (a.k = (toF 0).k), true)]) := by kernel_rfl
theorem muRun0' (K : Kf) (a b : F) (up : Bool) : valR ((run Tryz.prog EH (OMu K) 80).1 134 [.fl a, .fl b, .b up] [] (some [false, true])) = some (.tup [.fl F.zero, .i .i64 0], some [], [(decide (b.k = (toF 0).k), true), (decide (a.k = (toF 0).k), false)]) := by kernel_rfl
end Go.Proofs.YtmhhopfffeijnaaGreat
