/- Roots of intervals, and draws on the unit interval, by the reckoner. Package cosine by the reckoner: Draw, Mid. -/
import Derived.Test.YtiipaicbbmkagaaGs
import Derived.Test.YtiipaicbbmkagaaHf
import Derived.Test.YtiipaicbbmkagaaUy
import Derived.Test.YtiipaicbbmkagaaIj
import Derived.Test.YtiipaicbbmkagaaHh
namespace Go.Proofs.Ytiipaicbbmkagaa
set_option linter.all false
open Go.RowKit Bu Rx

def kOne (f : Bool → F → F × Int) : List SV → Dec → Option (SV × Dec × Obs)
  | [.fl x, .b up], ds => some (.tup [.fl (f up x).1, .si .i64 (f up x).2], ds, [])
  | _, _ => none
theorem sqrtG : PlainOk Try.prog 69 (kOne qSqrt) := by
  intro args ds x ds' ob h1 ho
  unfold kOne at h1
  split at h1
  · rename_i x up
    simp only [Option.some.injEq, Prod.mk.injEq] at h1
    obtain ⟨rfl, _, _⟩ := h1
    exact ⟨[.float .f64 x.b, .bool up], _, rfl, rfl, fun w => sqrt_F_w x up w⟩
  · cases h1
def OISq (f : Bool → F → F × Int) : OracleF := lookO [(26, plainO oRt), (69, plainO (kOne f))]
theorem oracleISq : OracleOk Try.prog (OISq qSqrt) := .cons irightG.of (.cons sqrtG.of (.nil _))
theorem csqrt_p0 (f : Bool → F → F × Int) (t : Nat) (n : Int) (a b : F) : takeR 1 ((run Try.prog EG (OISq f) 60).1 33 (.p 0 0 :: [.agg [.fl a, .fl b]]) [⟨t, [.si .i64 n]⟩] (some [true])) = some (.agg [.fl F.zero, .fl F.zero], [⟨t, [.si .i64 n]⟩], some [], [((!(n == 0)), true)]) := by kernel_rfl
theorem csqrt_p1 (f : Bool → F → F × Int) (t : Nat) (n : Int) (a b : F) : takeR 1 ((run Try.prog EG (OISq f) 60).1 33 (.p 0 0 :: [.agg [.fl a, .fl b]]) [⟨t, [.si .i64 n]⟩] (some [false, false])) = some (.agg [.fl F.zero, .fl F.zero], [⟨t, [.i .i64 20]⟩], some [], [(rt ⟨a, b⟩, false), ((!(n == 0)), false)]) := by kernel_rfl
theorem csqrt_p2 (f : Bool → F → F × Int) (t : Nat) (n : Int) (a b : F) : takeR 1 ((run Try.prog EG (OISq f) 60).1 33 (.p 0 0 :: [.agg [.fl a, .fl b]]) [⟨t, [.si .i64 n]⟩] (some [false, true, true, true])) = some (.agg [.fl F.zero, .fl F.zero], [⟨t, [.si .i64 (f false a).2]⟩], some [], [((!((f false a).2 == 0)), true), ((!((f false a).2 == 0)), true), (rt ⟨a, b⟩, true), ((!(n == 0)), false)]) := by kernel_rfl
theorem csqrt_p3 (f : Bool → F → F × Int) (t : Nat) (n : Int) (a b : F) : takeR 1 ((run Try.prog EG (OISq f) 60).1 33 (.p 0 0 :: [.agg [.fl a, .fl b]]) [⟨t, [.si .i64 n]⟩] (some [false, true, false, true])) = some (.agg [.fl F.zero, .fl F.zero], [⟨t, [.si .i64 (f true b).2]⟩], some [], [((!((f true b).2 == 0)), true), ((!((f false a).2 == 0)), false), (rt ⟨a, b⟩, true), ((!(n == 0)), false)]) := by kernel_rfl
theorem csqrt_p4 (f : Bool → F → F × Int) (t : Nat) (n : Int) (a b : F) : takeR 1 ((run Try.prog EG (OISq f) 60).1 33 (.p 0 0 :: [.agg [.fl a, .fl b]]) [⟨t, [.si .i64 n]⟩] (some [false, true, false, false])) = some (.agg [.fl (f false a).1, .fl (f true b).1], [⟨t, [.si .i64 n]⟩], some [], [((!((f true b).2 == 0)), false), ((!((f false a).2 == 0)), false), (rt ⟨a, b⟩, true), ((!(n == 0)), false)]) := by kernel_rfl
theorem csqrt_I : OfOk Try.prog 33 (kC (aI (cSqrt qSqrt))) := by
  refine ofI fun a b t n => ?_
  cases h0 : (!(n == 0))
  · cases h1 : rt ⟨a, b⟩
    · exact calc_path goodG oracleISq (csqrt_p1 qSqrt t n a b) (obsB_yes h1 (obsB_yes h0 obsB_nil)) (by simp only [cSqrt, askI, I.zero, h0, h1, cond_true, cond_false]) rfl
    · cases h3 : (!((qSqrt false a).2 == 0))
      · cases h4 : (!((qSqrt true b).2 == 0))
        · exact calc_path goodG oracleISq (csqrt_p4 qSqrt t n a b) (obsB_yes h4 (obsB_yes h3 (obsB_yes h1 (obsB_yes h0 obsB_nil)))) (by simp only [cSqrt, askI, endsI, I.zero, h0, h1, h3, h4, cond_true, cond_false]) rfl
        · exact calc_path goodG oracleISq (csqrt_p3 qSqrt t n a b) (obsB_yes h4 (obsB_yes h3 (obsB_yes h1 (obsB_yes h0 obsB_nil)))) (by simp only [cSqrt, askI, endsI, I.zero, h0, h1, h3, h4, cond_true, cond_false]) rfl
      · exact calc_path goodG oracleISq (csqrt_p2 qSqrt t n a b) (obsB_yes h3 (obsB_yes h3 (obsB_yes h1 (obsB_yes h0 obsB_nil)))) (by simp only [cSqrt, askI, endsI, I.zero, h0, h1, h3, cond_true, cond_false]) rfl
  · exact calc_path goodG oracleISq (csqrt_p0 qSqrt t n a b) (obsB_yes h0 obsB_nil) (by simp only [cSqrt, askI, I.zero, h0, cond_true]) rfl
end Go.Proofs.Ytiipaicbbmkagaa
namespace Go.Proofs.Ytiipaicbbmkagaa
open Go.RowKit Bu Rx

theorem unitG : PlainOk Try.prog 35 (kOf unI fun n => decide (0 ≤ n ∧ n ≤ 18446744073709551615)) := by
  intro args ds x ds' ob h ho
  unfold kOf at h
  split at h
  · rename_i u
    split at h
    · rename_i n hk
      simp only [Option.some.injEq, Prod.mk.injEq] at h; obtain ⟨rfl, _, rfl⟩ := h
      have hn := of_decide_eq_true (ho _ (List.mem_cons_self ..))
      obtain ⟨k, rfl⟩ := Int.eq_ofNat_of_zero_le hn.1
      refine ⟨[.int .u64 (k : Int)], _, plains_cons (intS_plain hk) plains_nil, rfl, fun w => (unitOf_w k (by omega) w).mono ?_⟩
      rintro e w' ⟨rfl, hb⟩
      exact ⟨by unfold unI; rw [Int.toNat_natCast]; rfl, hb⟩
    · cases h
  · cases h
def OQ (N : Kq) : OracleF := lookO [(14, plainO (kSC N.ib N.si N.co)), (35, plainO (kOf N.uo N.u)), (29, kC (aII N.mul)), (30, kC (aII N.sub)), (31, kC (aII N.max)), (33, kC (aI N.sqrt)), (28, kC (aF N.num))]
theorem oracleQ : OracleOk Try.prog (OQ (KqR atR)) := .cons scK.of (.cons unitG.of (.cons mulC (.cons subC (.cons cmax_I (.cons csqrt_I (.cons numC (.nil _)))))))
def drawS (v : I × I × I) : SV := .tup [.agg [.fl v.1.lo, .fl v.1.hi, .fl v.2.1.lo, .fl v.2.1.hi, .fl v.2.2.lo, .fl v.2.2.hi], .i .i64 0]
theorem drawRun (N : Kq) (a b : Int) : valR ((run Try.prog EG (OQ N) 60).1 34 [.si .u64 a, .si .u64 b] [] (some [true, false])) = some (drawS (dV N a b), some [], [(!((dZ N a b).2 == 0), false), (N.u a, true), (N.ib (N.uo b), true), (N.u b, true)]) := by kernel_rfl
def kDraw (v : Int → Int → I × I × I) (u : Int → Bool) : List SV → Dec → Option (SV × Dec × Obs)
  | [x, y], ds => match intS x, intS y with
    | some (.u64, a), some (.u64, b) => some (drawS (v a b), ds, [(u a, true), (u b, true)])
    | _, _ => none
  | _, _ => none
theorem drawG : PlainOk Try.prog 34 (kDraw (dV (KqR atR)) fun n => decide (0 ≤ n ∧ n ≤ 18446744073709551615)) := by
  intro args ds x ds' ob h ho
  unfold kDraw at h
  split at h
  · rename_i y1 y2
    split at h
    · rename_i a b ha hb
      simp only [Option.some.injEq, Prod.mk.injEq] at h; obtain ⟨rfl, _, rfl⟩ := h
      have h1 := ho _ (List.mem_cons_self ..)
      have h2 := ho (_, true) (List.mem_cons_of_mem _ (List.mem_cons_self ..))
      have g1 := of_decide_eq_true h1
      have g2 := of_decide_eq_true h2
      obtain ⟨D, hD⟩ := draw_ok (a := a) (b := b) g1.1 g1.2
      refine ⟨[.int .u64 a, .int .u64 b], _, plains_cons (intS_plain ha) (plains_cons (intS_plain hb) plains_nil), rfl, fun w => ?_⟩
      refine calls_of_val goodG oracleQ 60 (drawRun (KqR atR) a b) (ObsOk.of_B (obsB_yes ?_ (obsB_yes h1 (obsB_yes (unI_in b g2.1 g2.2) (obsB_yes h2 obsB_nil))))) rfl rfl w
      rw [hD.ez]; rfl
    · cases h
  · cases h
end Go.Proofs.Ytiipaicbbmkagaa
