/- Package ival by the reckoner: the methods of Calc (written by gencalc.py). -/
import Derived.Test.YtlhlcefkmhhmjaaGreatZ11
import Derived.Test.YtlhlcefkmhhmjaaGreatZ12
namespace Go.Proofs.YtlhlcefkmhhmjaaGreat
set_option linter.all false
open Go.RowKit Bu Rx

theorem toF0 : toF 0 = F.zero := F.ext' zero_k'
def OIR : OracleF := lookO [(50, plainO oRight)]
theorem oracleIR : OracleOk Tryz.prog OIR := .cons rightG.of (.nil _)
theorem irightRun (a b : F) (d : Bool) : valR ((run Tryz.prog EG OIR 60).1 55 [.agg [.fl a, .fl b]] [] (some [d])) = some (.b d, some [], [(decide (a.k ≤ b.k), d)]) := by cases d <;> kernel_rfl
theorem irightG : PlainOk Tryz.prog 55 oRt := by
  intro args ds x ds' ob h ho
  unfold oRt at h
  split at h
  · rename_i a b
    simp only [Option.map_eq_some_iff, Prod.mk.injEq] at h
    obtain ⟨⟨d, e, o⟩, h1, rfl, rfl, rfl⟩ := h
    have hd : d = decide (a.k ≤ b.k) := takeB_ok h1 ho
    refine ⟨[.agg #[.float .f64 a.b, .float .f64 b.b]], .bool d, rfl, rfl, fun w => ?_⟩
    exact calls_of_val goodG oracleIR 60 (irightRun a b d) (ObsOk.of_B (obsB_yes hd.symm obsB_nil)) rfl rfl w
  · cases h
def OIH : OracleF := lookO [(55, plainO oRt)]
theorem oracleIH : OracleOk Tryz.prog OIH := .cons irightG.of (.nil _)
theorem ihasRun0 (a b x : F) : valR ((run Tryz.prog EG OIH 60).1 41 [.agg [.fl a, .fl b], .fl x] [] (some [false])) = some (.b false, some [], [(rt ⟨a, b⟩, false)]) := by kernel_rfl
theorem ihasRun1 (a b x : F) : valR ((run Tryz.prog EG OIH 60).1 41 [.agg [.fl a, .fl b], .fl x] [] (some [true, false])) = some (.b false, some [], [(decide (a.k ≤ x.k), false), (rt ⟨a, b⟩, true)]) := by kernel_rfl
theorem ihasRun2 (a b x : F) (d : Bool) : valR ((run Tryz.prog EG OIH 60).1 41 [.agg [.fl a, .fl b], .fl x] [] (some [true, true, d])) = some (.b d, some [], [(decide (x.k ≤ b.k), d), (decide (a.k ≤ x.k), true), (rt ⟨a, b⟩, true)]) := by cases d <;> kernel_rfl
theorem ihasG : PlainOk Tryz.prog 41 oHas := by
  intro args ds x ds' ob h ho
  unfold oHas at h
  split at h
  · rename_i a b z
    simp only [Option.map_eq_some_iff, Prod.mk.injEq] at h
    obtain ⟨⟨d, e, o⟩, h1, rfl, rfl, rfl⟩ := h
    have hd : d = hasB ⟨a, b⟩ z := takeB_ok h1 ho
    refine ⟨[.agg #[.float .f64 a.b, .float .f64 b.b], .float .f64 z.b], .bool d, rfl, rfl, fun w => ?_⟩
    subst hd
    cases h1 : rt ⟨a, b⟩
    · rw [show hasB ⟨a, b⟩ z = false from by simp [hasB, h1]]
      exact calls_of_val goodG oracleIH 60 (ihasRun0 a b z) (ObsOk.of_B (obsB_yes h1 obsB_nil)) rfl rfl w
    · cases h2 : decide (a.k ≤ z.k)
      · rw [show hasB ⟨a, b⟩ z = false from by simp [hasB, h1, h2]]
        exact calls_of_val goodG oracleIH 60 (ihasRun1 a b z) (ObsOk.of_B (obsB_yes h2 (obsB_yes h1 obsB_nil))) rfl rfl w
      · rw [show hasB ⟨a, b⟩ z = decide (z.k ≤ b.k) from by simp [hasB, h1, h2]]
        exact calls_of_val goodG oracleIH 60 (ihasRun2 a b z (decide (z.k ≤ b.k))) (ObsOk.of_B (obsB_yes rfl (obsB_yes h2 (obsB_yes h1 obsB_nil)))) rfl rfl w
  · cases h
def subZ (s : Nat → Option Nat) (b : F) : F := toF ((s b.b).getD 0)
def obZ (s : Nat → Option Nat) (b : F) : Obs := [((s b.b).isSome, true), (rightB ((s b.b).getD 0), true)]
theorem subZ_neg (b : F) : subZ (Ieee.double.sub (toF 0).b) b = b.neg := by unfold subZ; rw [toF0, sub_zero_F, Option.getD_some, toF_F]
theorem obZ_ok (b : F) : obsB (obZ (Ieee.double.sub (toF 0).b) b) = true := by
  unfold obZ; rw [toF0, sub_zero_F]; exact obsB_yes rfl (obsB_yes (right_F _) obsB_nil)
theorem turnRun (a b : F) : valR ((run Tryz.prog EG OIH 60).1 132 [.agg [.fl a, .fl b]] [] (some [])) = some (.agg [.fl (subZ (Ieee.double.sub (toF 0).b) b), .fl (subZ (Ieee.double.sub (toF 0).b) a)], some [], obZ (Ieee.double.sub (toF 0).b) a ++ obZ (Ieee.double.sub (toF 0).b) b) := by kernel_rfl
theorem turnG : PlainOk Tryz.prog 132 (oI1 turnI) := by
  intro args ds x ds' ob h ho
  unfold oI1 at h
  split at h
  · rename_i a b
    simp only [Option.some.injEq, Prod.mk.injEq] at h
    obtain ⟨rfl, _, _⟩ := h
    refine ⟨[.agg #[.float .f64 a.b, .float .f64 b.b]], _, rfl, rfl, fun w => ?_⟩
    have hr := turnRun a b
    rw [subZ_neg, subZ_neg] at hr
    exact calls_of_val goodG oracleIH 60 hr (ObsOk.of_B (by rw [obsB_app, obZ_ok, obZ_ok]; rfl)) rfl rfl w
  · cases h
def OIB : OracleF := lookO [(132, plainO (oI1 turnI))]
theorem oracleIB : OracleOk Tryz.prog OIB := .cons turnG.of (.nil _)
theorem bareRun0 (a b : F) : valR ((run Tryz.prog EG OIB 60).1 117 [.agg [.fl a, .fl b]] [] (some [true])) = some (.agg [.fl a, .fl b], some [], [(decide ((toF 0).k ≤ a.k), true)]) := by kernel_rfl
theorem bareRun1 (a b : F) : valR ((run Tryz.prog EG OIB 60).1 117 [.agg [.fl a, .fl b]] [] (some [false, true])) = some (.agg [.fl b.neg, .fl a.neg], some [], [(decide (b.k ≤ (toF 0).k), true), (decide ((toF 0).k ≤ a.k), false)]) := by kernel_rfl
theorem bareRun2 (a b : F) : valR ((run Tryz.prog EG OIB 60).1 117 [.agg [.fl a, .fl b]] [] (some [false, false])) = some (.agg [.fl F.zero, .fl (mxF b a.neg)], some [], [(!decide (a.k = 0), true), (decide (b.k ≤ (toF 0).k), false), (decide ((toF 0).k ≤ a.k), false)]) := by kernel_rfl
theorem bareG : PlainOk Tryz.prog 117 (oI1 bareI) := by
  intro args ds x ds' ob h ho
  unfold oI1 at h
  split at h
  · rename_i a b
    simp only [Option.some.injEq, Prod.mk.injEq] at h
    obtain ⟨rfl, _, _⟩ := h
    refine ⟨[.agg #[.float .f64 a.b, .float .f64 b.b]], _, rfl, rfl, fun w => ?_⟩
    cases h1 : decide (0 ≤ a.k)
    · cases h2 : decide (b.k ≤ 0)
      · rw [show bareI ⟨a, b⟩ = ⟨F.zero, mxF b a.neg⟩ from by simp only [bareI, h1, h2, cond_false]]
        exact calls_of_val goodG oracleIB 60 (bareRun2 a b) (ObsOk.of_B (obsB_yes (by have := of_decide_eq_false h1; simp; omega) (obsB_yes (by rw [zero_k']; exact h2) (obsB_yes (by rw [zero_k']; exact h1) obsB_nil)))) rfl rfl w
      · rw [show bareI ⟨a, b⟩ = ⟨b.neg, a.neg⟩ from by simp only [bareI, turnI, h1, h2, cond_false, cond_true]]
        exact calls_of_val goodG oracleIB 60 (bareRun1 a b) (ObsOk.of_B (obsB_yes (by rw [zero_k']; exact h2) (obsB_yes (by rw [zero_k']; exact h1) obsB_nil))) rfl rfl w
    · rw [show bareI ⟨a, b⟩ = ⟨a, b⟩ from by simp only [bareI, h1, cond_true]]
      exact calls_of_val goodG oracleIB 60 (bareRun0 a b) (ObsOk.of_B (obsB_yes (by rw [zero_k']; exact h1) obsB_nil)) rfl rfl w
  · cases h
theorem hullRun (a b c d : F) : valR ((run Tryz.prog EG OIR 60).1 75 [.agg [.fl a, .fl b], .agg [.fl c, .fl d]] [] (some [])) = some (.agg [.fl (mnF a c), .fl (mxF b d)], some [], []) := by kernel_rfl
theorem hullG : PlainOk Tryz.prog 75 (oI2 hullI) := by
  intro args ds x ds' ob h ho
  unfold oI2 at h
  split at h
  · rename_i a b c d
    simp only [Option.some.injEq, Prod.mk.injEq] at h
    obtain ⟨rfl, _, _⟩ := h
    exact ⟨[.agg #[.float .f64 a.b, .float .f64 b.b], .agg #[.float .f64 c.b, .float .f64 d.b]], _, rfl, rfl, fun w => calls_of_val goodG oracleIR 60 (hullRun a b c d) (ObsOk.of_B obsB_nil) rfl rfl w⟩
  · cases h

def OIAdd (f : Bool → F → F → F × Int) : OracleF := lookO [(55, plainO oRt), (118, plainO (kTwo f))]
theorem oracleIAdd {f : Bool → F → F → F × Int} (hf : PlainOk Tryz.prog 118 (kTwo f)) : OracleOk Tryz.prog (OIAdd f) := .cons irightG.of (.cons hf.of (.nil _))
theorem cadd_p0 (f : Bool → F → F → F × Int) (t : Nat) (n : Int) (a b c d : F) : takeR 1 ((run Tryz.prog EG (OIAdd f) 60).1 95 (.p 0 0 :: [.agg [.fl a, .fl b], .agg [.fl c, .fl d]]) [⟨t, [.si .i64 n]⟩] (some [false, false])) = some (.agg [.fl F.zero, .fl F.zero], [⟨t, [.i .i64 20]⟩], some [], [(rt ⟨a, b⟩, false), ((!(n == 0)), false)]) := by kernel_rfl
theorem cadd_p1 (f : Bool → F → F → F × Int) (t : Nat) (n : Int) (a b c d : F) : takeR 1 ((run Tryz.prog EG (OIAdd f) 60).1 95 (.p 0 0 :: [.agg [.fl a, .fl b], .agg [.fl c, .fl d]]) [⟨t, [.si .i64 n]⟩] (some [false, true, false])) = some (.agg [.fl F.zero, .fl F.zero], [⟨t, [.i .i64 20]⟩], some [], [(rt ⟨c, d⟩, false), (rt ⟨a, b⟩, true), ((!(n == 0)), false)]) := by kernel_rfl
theorem cadd_p2 (f : Bool → F → F → F × Int) (t : Nat) (n : Int) (a b c d : F) : takeR 1 ((run Tryz.prog EG (OIAdd f) 60).1 95 (.p 0 0 :: [.agg [.fl a, .fl b], .agg [.fl c, .fl d]]) [⟨t, [.si .i64 n]⟩] (some [false, true, true, false, false])) = some (.agg [.fl (f false a c).1, .fl (f true b d).1], [⟨t, [.si .i64 n]⟩], some [], [((!((f true b d).2 == 0)), false), ((!((f false a c).2 == 0)), false), (rt ⟨c, d⟩, true), (rt ⟨a, b⟩, true), ((!(n == 0)), false)]) := by kernel_rfl
theorem cadd_p3 (f : Bool → F → F → F × Int) (t : Nat) (n : Int) (a b c d : F) : takeR 1 ((run Tryz.prog EG (OIAdd f) 60).1 95 (.p 0 0 :: [.agg [.fl a, .fl b], .agg [.fl c, .fl d]]) [⟨t, [.si .i64 n]⟩] (some [false, true, true, false, true])) = some (.agg [.fl F.zero, .fl F.zero], [⟨t, [.si .i64 (f true b d).2]⟩], some [], [((!((f true b d).2 == 0)), true), ((!((f false a c).2 == 0)), false), (rt ⟨c, d⟩, true), (rt ⟨a, b⟩, true), ((!(n == 0)), false)]) := by kernel_rfl
theorem cadd_p4 (f : Bool → F → F → F × Int) (t : Nat) (n : Int) (a b c d : F) : takeR 1 ((run Tryz.prog EG (OIAdd f) 60).1 95 (.p 0 0 :: [.agg [.fl a, .fl b], .agg [.fl c, .fl d]]) [⟨t, [.si .i64 n]⟩] (some [false, true, true, true, true])) = some (.agg [.fl F.zero, .fl F.zero], [⟨t, [.si .i64 (f false a c).2]⟩], some [], [((!((f false a c).2 == 0)), true), ((!((f false a c).2 == 0)), true), (rt ⟨c, d⟩, true), (rt ⟨a, b⟩, true), ((!(n == 0)), false)]) := by kernel_rfl
theorem cadd_p5 (f : Bool → F → F → F × Int) (t : Nat) (n : Int) (a b c d : F) : takeR 1 ((run Tryz.prog EG (OIAdd f) 60).1 95 (.p 0 0 :: [.agg [.fl a, .fl b], .agg [.fl c, .fl d]]) [⟨t, [.si .i64 n]⟩] (some [true])) = some (.agg [.fl F.zero, .fl F.zero], [⟨t, [.si .i64 n]⟩], some [], [((!(n == 0)), true)]) := by kernel_rfl
theorem cadd_I {f : Bool → F → F → F × Int} (hf : PlainOk Tryz.prog 118 (kTwo f)) : OfOk Tryz.prog 95 (kC (aII (cAdd f))) := by
  refine ofII fun a b c d t n => ?_
  cases h0 : (!(n == 0))
  · skip
    cases h1 : rt ⟨a, b⟩
    · skip
      exact calc_path goodG (oracleIAdd hf) (cadd_p0 f t n a b c d) (obsB_yes h1 (obsB_yes h0 obsB_nil)) (by simp only [cAdd, askI, endsI, I.zero, h0, h1, cond_true, cond_false, Bool.and_true, Bool.true_and, Bool.and_false, Bool.false_and]) rfl
    · skip
      cases h2 : rt ⟨c, d⟩
      · skip
        exact calc_path goodG (oracleIAdd hf) (cadd_p1 f t n a b c d) (obsB_yes h2 (obsB_yes h1 (obsB_yes h0 obsB_nil))) (by simp only [cAdd, askI, endsI, I.zero, h0, h1, h2, cond_true, cond_false, Bool.and_true, Bool.true_and, Bool.and_false, Bool.false_and]) rfl
      · skip
        cases h3 : (!((f false a c).2 == 0))
        · skip
          cases h4 : (!((f true b d).2 == 0))
          · skip
            exact calc_path goodG (oracleIAdd hf) (cadd_p2 f t n a b c d) (obsB_yes h4 (obsB_yes h3 (obsB_yes h2 (obsB_yes h1 (obsB_yes h0 obsB_nil))))) (by simp only [cAdd, askI, endsI, I.zero, h0, h1, h2, h3, h4, cond_true, cond_false, Bool.and_true, Bool.true_and, Bool.and_false, Bool.false_and]) rfl
          · skip
            exact calc_path goodG (oracleIAdd hf) (cadd_p3 f t n a b c d) (obsB_yes h4 (obsB_yes h3 (obsB_yes h2 (obsB_yes h1 (obsB_yes h0 obsB_nil))))) (by simp only [cAdd, askI, endsI, I.zero, h0, h1, h2, h3, h4, cond_true, cond_false, Bool.and_true, Bool.true_and, Bool.and_false, Bool.false_and]) rfl
        · skip
          exact calc_path goodG (oracleIAdd hf) (cadd_p4 f t n a b c d) (obsB_yes h3 (obsB_yes h3 (obsB_yes h2 (obsB_yes h1 (obsB_yes h0 obsB_nil))))) (by simp only [cAdd, askI, endsI, I.zero, h0, h1, h2, h3, cond_true, cond_false, Bool.and_true, Bool.true_and, Bool.and_false, Bool.false_and]) rfl
  · skip
    exact calc_path goodG (oracleIAdd hf) (cadd_p5 f t n a b c d) (obsB_yes h0 obsB_nil) (by simp only [cAdd, askI, endsI, I.zero, h0, cond_true, cond_false, Bool.and_true, Bool.true_and, Bool.and_false, Bool.false_and]) rfl
def OISub (f : Bool → F → F → F × Int) : OracleF := lookO [(55, plainO oRt), (120, plainO (kTwo f))]
theorem oracleISub {f : Bool → F → F → F × Int} (hf : PlainOk Tryz.prog 120 (kTwo f)) : OracleOk Tryz.prog (OISub f) := .cons irightG.of (.cons hf.of (.nil _))
theorem csub_p0 (f : Bool → F → F → F × Int) (t : Nat) (n : Int) (a b c d : F) : takeR 1 ((run Tryz.prog EG (OISub f) 60).1 98 (.p 0 0 :: [.agg [.fl a, .fl b], .agg [.fl c, .fl d]]) [⟨t, [.si .i64 n]⟩] (some [false, false])) = some (.agg [.fl F.zero, .fl F.zero], [⟨t, [.i .i64 20]⟩], some [], [(rt ⟨a, b⟩, false), ((!(n == 0)), false)]) := by kernel_rfl
theorem csub_p1 (f : Bool → F → F → F × Int) (t : Nat) (n : Int) (a b c d : F) : takeR 1 ((run Tryz.prog EG (OISub f) 60).1 98 (.p 0 0 :: [.agg [.fl a, .fl b], .agg [.fl c, .fl d]]) [⟨t, [.si .i64 n]⟩] (some [false, true, false])) = some (.agg [.fl F.zero, .fl F.zero], [⟨t, [.i .i64 20]⟩], some [], [(rt ⟨c, d⟩, false), (rt ⟨a, b⟩, true), ((!(n == 0)), false)]) := by kernel_rfl
theorem csub_p2 (f : Bool → F → F → F × Int) (t : Nat) (n : Int) (a b c d : F) : takeR 1 ((run Tryz.prog EG (OISub f) 60).1 98 (.p 0 0 :: [.agg [.fl a, .fl b], .agg [.fl c, .fl d]]) [⟨t, [.si .i64 n]⟩] (some [false, true, true, false, false])) = some (.agg [.fl (f false a d).1, .fl (f true b c).1], [⟨t, [.si .i64 n]⟩], some [], [((!((f true b c).2 == 0)), false), ((!((f false a d).2 == 0)), false), (rt ⟨c, d⟩, true), (rt ⟨a, b⟩, true), ((!(n == 0)), false)]) := by kernel_rfl
theorem csub_p3 (f : Bool → F → F → F × Int) (t : Nat) (n : Int) (a b c d : F) : takeR 1 ((run Tryz.prog EG (OISub f) 60).1 98 (.p 0 0 :: [.agg [.fl a, .fl b], .agg [.fl c, .fl d]]) [⟨t, [.si .i64 n]⟩] (some [false, true, true, false, true])) = some (.agg [.fl F.zero, .fl F.zero], [⟨t, [.si .i64 (f true b c).2]⟩], some [], [((!((f true b c).2 == 0)), true), ((!((f false a d).2 == 0)), false), (rt ⟨c, d⟩, true), (rt ⟨a, b⟩, true), ((!(n == 0)), false)]) := by kernel_rfl
theorem csub_p4 (f : Bool → F → F → F × Int) (t : Nat) (n : Int) (a b c d : F) : takeR 1 ((run Tryz.prog EG (OISub f) 60).1 98 (.p 0 0 :: [.agg [.fl a, .fl b], .agg [.fl c, .fl d]]) [⟨t, [.si .i64 n]⟩] (some [false, true, true, true, true])) = some (.agg [.fl F.zero, .fl F.zero], [⟨t, [.si .i64 (f false a d).2]⟩], some [], [((!((f false a d).2 == 0)), true), ((!((f false a d).2 == 0)), true), (rt ⟨c, d⟩, true), (rt ⟨a, b⟩, true), ((!(n == 0)), false)]) := by kernel_rfl
theorem csub_p5 (f : Bool → F → F → F × Int) (t : Nat) (n : Int) (a b c d : F) : takeR 1 ((run Tryz.prog EG (OISub f) 60).1 98 (.p 0 0 :: [.agg [.fl a, .fl b], .agg [.fl c, .fl d]]) [⟨t, [.si .i64 n]⟩] (some [true])) = some (.agg [.fl F.zero, .fl F.zero], [⟨t, [.si .i64 n]⟩], some [], [((!(n == 0)), true)]) := by kernel_rfl
theorem csub_I {f : Bool → F → F → F × Int} (hf : PlainOk Tryz.prog 120 (kTwo f)) : OfOk Tryz.prog 98 (kC (aII (cSub f))) := by
  refine ofII fun a b c d t n => ?_
  cases h0 : (!(n == 0))
  · skip
    cases h1 : rt ⟨a, b⟩
    · skip
      exact calc_path goodG (oracleISub hf) (csub_p0 f t n a b c d) (obsB_yes h1 (obsB_yes h0 obsB_nil)) (by simp only [cSub, askI, endsI, I.zero, h0, h1, cond_true, cond_false, Bool.and_true, Bool.true_and, Bool.and_false, Bool.false_and]) rfl
    · skip
      cases h2 : rt ⟨c, d⟩
      · skip
        exact calc_path goodG (oracleISub hf) (csub_p1 f t n a b c d) (obsB_yes h2 (obsB_yes h1 (obsB_yes h0 obsB_nil))) (by simp only [cSub, askI, endsI, I.zero, h0, h1, h2, cond_true, cond_false, Bool.and_true, Bool.true_and, Bool.and_false, Bool.false_and]) rfl
      · skip
        cases h3 : (!((f false a d).2 == 0))
        · skip
          cases h4 : (!((f true b c).2 == 0))
          · skip
            exact calc_path goodG (oracleISub hf) (csub_p2 f t n a b c d) (obsB_yes h4 (obsB_yes h3 (obsB_yes h2 (obsB_yes h1 (obsB_yes h0 obsB_nil))))) (by simp only [cSub, askI, endsI, I.zero, h0, h1, h2, h3, h4, cond_true, cond_false, Bool.and_true, Bool.true_and, Bool.and_false, Bool.false_and]) rfl
          · skip
            exact calc_path goodG (oracleISub hf) (csub_p3 f t n a b c d) (obsB_yes h4 (obsB_yes h3 (obsB_yes h2 (obsB_yes h1 (obsB_yes h0 obsB_nil))))) (by simp only [cSub, askI, endsI, I.zero, h0, h1, h2, h3, h4, cond_true, cond_false, Bool.and_true, Bool.true_and, Bool.and_false, Bool.false_and]) rfl
        · skip
          exact calc_path goodG (oracleISub hf) (csub_p4 f t n a b c d) (obsB_yes h3 (obsB_yes h3 (obsB_yes h2 (obsB_yes h1 (obsB_yes h0 obsB_nil))))) (by simp only [cSub, askI, endsI, I.zero, h0, h1, h2, h3, cond_true, cond_false, Bool.and_true, Bool.true_and, Bool.and_false, Bool.false_and]) rfl
  · skip
    exact calc_path goodG (oracleISub hf) (csub_p5 f t n a b c d) (obsB_yes h0 obsB_nil) (by simp only [cSub, askI, endsI, I.zero, h0, cond_true, cond_false, Bool.and_true, Bool.true_and, Bool.and_false, Bool.false_and]) rfl
def OIMul (f : Bool → F → F → F × Int) : OracleF := lookO [(55, plainO oRt), (75, plainO (oI2 hullI)), (48, plainO (kTwo f))]
theorem oracleIMul {f : Bool → F → F → F × Int} (hf : PlainOk Tryz.prog 48 (kTwo f)) : OracleOk Tryz.prog (OIMul f) := .cons irightG.of (.cons hullG.of (.cons hf.of (.nil _)))
theorem cmul_p0 (f : Bool → F → F → F × Int) (t : Nat) (n : Int) (a b c d : F) : takeR 1 ((run Tryz.prog EG (OIMul f) 60).1 21 (.p 0 0 :: [.agg [.fl a, .fl b], .agg [.fl c, .fl d]]) [⟨t, [.si .i64 n]⟩] (some [false, false])) = some (.agg [.fl F.zero, .fl F.zero], [⟨t, [.i .i64 20]⟩], some [], [(rt ⟨a, b⟩, false), ((!(n == 0)), false)]) := by kernel_rfl
theorem cmul_p1 (f : Bool → F → F → F × Int) (t : Nat) (n : Int) (a b c d : F) : takeR 1 ((run Tryz.prog EG (OIMul f) 60).1 21 (.p 0 0 :: [.agg [.fl a, .fl b], .agg [.fl c, .fl d]]) [⟨t, [.si .i64 n]⟩] (some [false, true, false])) = some (.agg [.fl F.zero, .fl F.zero], [⟨t, [.i .i64 20]⟩], some [], [(rt ⟨c, d⟩, false), (rt ⟨a, b⟩, true), ((!(n == 0)), false)]) := by kernel_rfl
theorem cmul_p2 (f : Bool → F → F → F × Int) (t : Nat) (n : Int) (a b c d : F) : takeR 1 ((run Tryz.prog EG (OIMul f) 60).1 21 (.p 0 0 :: [.agg [.fl a, .fl b], .agg [.fl c, .fl d]]) [⟨t, [.si .i64 n]⟩] (some [false, true, true, false, false, false, false, false, false, false, false])) = some (.agg [.fl (mnF (mnF (mnF (mnF (f false a c).1 (f false a c).1) (f false a d).1) (f false b c).1) (f false b d).1), .fl (mxF (mxF (mxF (mxF (f true a c).1 (f true a c).1) (f true a d).1) (f true b c).1) (f true b d).1)], [⟨t, [.si .i64 n]⟩], some [], [((!((f true b d).2 == 0)), false), ((!((f false b d).2 == 0)), false), ((!((f true b c).2 == 0)), false), ((!((f false b c).2 == 0)), false), ((!((f true a d).2 == 0)), false), ((!((f false a d).2 == 0)), false), ((!((f true a c).2 == 0)), false), ((!((f false a c).2 == 0)), false), (rt ⟨c, d⟩, true), (rt ⟨a, b⟩, true), ((!(n == 0)), false)]) := by kernel_rfl
theorem cmul_p3 (f : Bool → F → F → F × Int) (t : Nat) (n : Int) (a b c d : F) : takeR 1 ((run Tryz.prog EG (OIMul f) 60).1 21 (.p 0 0 :: [.agg [.fl a, .fl b], .agg [.fl c, .fl d]]) [⟨t, [.si .i64 n]⟩] (some [false, true, true, false, false, false, false, false, false, false, true, true])) = some (.agg [.fl F.zero, .fl F.zero], [⟨t, [.si .i64 (f true b d).2]⟩], some [], [((!((f true b d).2 == 0)), true), ((!((f true b d).2 == 0)), true), ((!((f false b d).2 == 0)), false), ((!((f true b c).2 == 0)), false), ((!((f false b c).2 == 0)), false), ((!((f true a d).2 == 0)), false), ((!((f false a d).2 == 0)), false), ((!((f true a c).2 == 0)), false), ((!((f false a c).2 == 0)), false), (rt ⟨c, d⟩, true), (rt ⟨a, b⟩, true), ((!(n == 0)), false)]) := by kernel_rfl
theorem cmul_p4 (f : Bool → F → F → F × Int) (t : Nat) (n : Int) (a b c d : F) : takeR 1 ((run Tryz.prog EG (OIMul f) 60).1 21 (.p 0 0 :: [.agg [.fl a, .fl b], .agg [.fl c, .fl d]]) [⟨t, [.si .i64 n]⟩] (some [false, true, true, false, false, false, false, false, false, true, true, true])) = some (.agg [.fl F.zero, .fl F.zero], [⟨t, [.si .i64 (f false b d).2]⟩], some [], [((!((f false b d).2 == 0)), true), ((!((f false b d).2 == 0)), true), ((!((f false b d).2 == 0)), true), ((!((f true b c).2 == 0)), false), ((!((f false b c).2 == 0)), false), ((!((f true a d).2 == 0)), false), ((!((f false a d).2 == 0)), false), ((!((f true a c).2 == 0)), false), ((!((f false a c).2 == 0)), false), (rt ⟨c, d⟩, true), (rt ⟨a, b⟩, true), ((!(n == 0)), false)]) := by kernel_rfl
theorem cmul_p5 (f : Bool → F → F → F × Int) (t : Nat) (n : Int) (a b c d : F) : takeR 1 ((run Tryz.prog EG (OIMul f) 60).1 21 (.p 0 0 :: [.agg [.fl a, .fl b], .agg [.fl c, .fl d]]) [⟨t, [.si .i64 n]⟩] (some [false, true, true, false, false, false, false, false, true, true])) = some (.agg [.fl F.zero, .fl F.zero], [⟨t, [.si .i64 (f true b c).2]⟩], some [], [((!((f true b c).2 == 0)), true), ((!((f true b c).2 == 0)), true), ((!((f false b c).2 == 0)), false), ((!((f true a d).2 == 0)), false), ((!((f false a d).2 == 0)), false), ((!((f true a c).2 == 0)), false), ((!((f false a c).2 == 0)), false), (rt ⟨c, d⟩, true), (rt ⟨a, b⟩, true), ((!(n == 0)), false)]) := by kernel_rfl
theorem cmul_p6 (f : Bool → F → F → F × Int) (t : Nat) (n : Int) (a b c d : F) : takeR 1 ((run Tryz.prog EG (OIMul f) 60).1 21 (.p 0 0 :: [.agg [.fl a, .fl b], .agg [.fl c, .fl d]]) [⟨t, [.si .i64 n]⟩] (some [false, true, true, false, false, false, false, true, true, true])) = some (.agg [.fl F.zero, .fl F.zero], [⟨t, [.si .i64 (f false b c).2]⟩], some [], [((!((f false b c).2 == 0)), true), ((!((f false b c).2 == 0)), true), ((!((f false b c).2 == 0)), true), ((!((f true a d).2 == 0)), false), ((!((f false a d).2 == 0)), false), ((!((f true a c).2 == 0)), false), ((!((f false a c).2 == 0)), false), (rt ⟨c, d⟩, true), (rt ⟨a, b⟩, true), ((!(n == 0)), false)]) := by kernel_rfl
theorem cmul_p7 (f : Bool → F → F → F × Int) (t : Nat) (n : Int) (a b c d : F) : takeR 1 ((run Tryz.prog EG (OIMul f) 60).1 21 (.p 0 0 :: [.agg [.fl a, .fl b], .agg [.fl c, .fl d]]) [⟨t, [.si .i64 n]⟩] (some [false, true, true, false, false, false, true, true])) = some (.agg [.fl F.zero, .fl F.zero], [⟨t, [.si .i64 (f true a d).2]⟩], some [], [((!((f true a d).2 == 0)), true), ((!((f true a d).2 == 0)), true), ((!((f false a d).2 == 0)), false), ((!((f true a c).2 == 0)), false), ((!((f false a c).2 == 0)), false), (rt ⟨c, d⟩, true), (rt ⟨a, b⟩, true), ((!(n == 0)), false)]) := by kernel_rfl
theorem cmul_p8 (f : Bool → F → F → F × Int) (t : Nat) (n : Int) (a b c d : F) : takeR 1 ((run Tryz.prog EG (OIMul f) 60).1 21 (.p 0 0 :: [.agg [.fl a, .fl b], .agg [.fl c, .fl d]]) [⟨t, [.si .i64 n]⟩] (some [false, true, true, false, false, true, true, true])) = some (.agg [.fl F.zero, .fl F.zero], [⟨t, [.si .i64 (f false a d).2]⟩], some [], [((!((f false a d).2 == 0)), true), ((!((f false a d).2 == 0)), true), ((!((f false a d).2 == 0)), true), ((!((f true a c).2 == 0)), false), ((!((f false a c).2 == 0)), false), (rt ⟨c, d⟩, true), (rt ⟨a, b⟩, true), ((!(n == 0)), false)]) := by kernel_rfl
theorem cmul_p9 (f : Bool → F → F → F × Int) (t : Nat) (n : Int) (a b c d : F) : takeR 1 ((run Tryz.prog EG (OIMul f) 60).1 21 (.p 0 0 :: [.agg [.fl a, .fl b], .agg [.fl c, .fl d]]) [⟨t, [.si .i64 n]⟩] (some [false, true, true, false, true, true])) = some (.agg [.fl F.zero, .fl F.zero], [⟨t, [.si .i64 (f true a c).2]⟩], some [], [((!((f true a c).2 == 0)), true), ((!((f true a c).2 == 0)), true), ((!((f false a c).2 == 0)), false), (rt ⟨c, d⟩, true), (rt ⟨a, b⟩, true), ((!(n == 0)), false)]) := by kernel_rfl
theorem cmul_p10 (f : Bool → F → F → F × Int) (t : Nat) (n : Int) (a b c d : F) : takeR 1 ((run Tryz.prog EG (OIMul f) 60).1 21 (.p 0 0 :: [.agg [.fl a, .fl b], .agg [.fl c, .fl d]]) [⟨t, [.si .i64 n]⟩] (some [false, true, true, true, true, true])) = some (.agg [.fl F.zero, .fl F.zero], [⟨t, [.si .i64 (f false a c).2]⟩], some [], [((!((f false a c).2 == 0)), true), ((!((f false a c).2 == 0)), true), ((!((f false a c).2 == 0)), true), (rt ⟨c, d⟩, true), (rt ⟨a, b⟩, true), ((!(n == 0)), false)]) := by kernel_rfl
theorem cmul_p11 (f : Bool → F → F → F × Int) (t : Nat) (n : Int) (a b c d : F) : takeR 1 ((run Tryz.prog EG (OIMul f) 60).1 21 (.p 0 0 :: [.agg [.fl a, .fl b], .agg [.fl c, .fl d]]) [⟨t, [.si .i64 n]⟩] (some [true])) = some (.agg [.fl F.zero, .fl F.zero], [⟨t, [.si .i64 n]⟩], some [], [((!(n == 0)), true)]) := by kernel_rfl
theorem cmul_I {f : Bool → F → F → F × Int} (hf : PlainOk Tryz.prog 48 (kTwo f)) : OfOk Tryz.prog 21 (kC (aII (cMul f))) := by
  refine ofII fun a b c d t n => ?_
  cases h0 : (!(n == 0))
  · skip
    cases h1 : rt ⟨a, b⟩
    · skip
      exact calc_path goodG (oracleIMul hf) (cmul_p0 f t n a b c d) (obsB_yes h1 (obsB_yes h0 obsB_nil)) (by simp only [cMul, askI, allI, thenI, oneI, endsI, hullI, show (!((0 : Int) == 0)) = false from rfl, show (!((11 : Int) == 0)) = true from rfl, I.zero, h0, h1, cond_true, cond_false, Bool.and_true, Bool.true_and, Bool.and_false, Bool.false_and]) rfl
    · skip
      cases h2 : rt ⟨c, d⟩
      · skip
        exact calc_path goodG (oracleIMul hf) (cmul_p1 f t n a b c d) (obsB_yes h2 (obsB_yes h1 (obsB_yes h0 obsB_nil))) (by simp only [cMul, askI, allI, thenI, oneI, endsI, hullI, show (!((0 : Int) == 0)) = false from rfl, show (!((11 : Int) == 0)) = true from rfl, I.zero, h0, h1, h2, cond_true, cond_false, Bool.and_true, Bool.true_and, Bool.and_false, Bool.false_and]) rfl
      · skip
        cases h10 : (!((f false a c).2 == 0))
        · skip
          cases h11 : (!((f true a c).2 == 0))
          · skip
            cases h12 : (!((f false a d).2 == 0))
            · skip
              cases h13 : (!((f true a d).2 == 0))
              · skip
                cases h14 : (!((f false b c).2 == 0))
                · skip
                  cases h15 : (!((f true b c).2 == 0))
                  · skip
                    cases h16 : (!((f false b d).2 == 0))
                    · skip
                      cases h17 : (!((f true b d).2 == 0))
                      · skip
                        exact calc_path goodG (oracleIMul hf) (cmul_p2 f t n a b c d) (obsB_yes h17 (obsB_yes h16 (obsB_yes h15 (obsB_yes h14 (obsB_yes h13 (obsB_yes h12 (obsB_yes h11 (obsB_yes h10 (obsB_yes h2 (obsB_yes h1 (obsB_yes h0 obsB_nil))))))))))) (by simp only [cMul, askI, allI, thenI, oneI, endsI, hullI, show (!((0 : Int) == 0)) = false from rfl, show (!((11 : Int) == 0)) = true from rfl, I.zero, h0, h1, h2, h10, h11, h12, h13, h14, h15, h16, h17, cond_true, cond_false, Bool.and_true, Bool.true_and, Bool.and_false, Bool.false_and]) rfl
                      · skip
                        exact calc_path goodG (oracleIMul hf) (cmul_p3 f t n a b c d) (obsB_yes h17 (obsB_yes h17 (obsB_yes h16 (obsB_yes h15 (obsB_yes h14 (obsB_yes h13 (obsB_yes h12 (obsB_yes h11 (obsB_yes h10 (obsB_yes h2 (obsB_yes h1 (obsB_yes h0 obsB_nil)))))))))))) (by simp only [cMul, askI, allI, thenI, oneI, endsI, hullI, show (!((0 : Int) == 0)) = false from rfl, show (!((11 : Int) == 0)) = true from rfl, I.zero, h0, h1, h2, h10, h11, h12, h13, h14, h15, h16, h17, cond_true, cond_false, Bool.and_true, Bool.true_and, Bool.and_false, Bool.false_and]) rfl
                    · skip
                      exact calc_path goodG (oracleIMul hf) (cmul_p4 f t n a b c d) (obsB_yes h16 (obsB_yes h16 (obsB_yes h16 (obsB_yes h15 (obsB_yes h14 (obsB_yes h13 (obsB_yes h12 (obsB_yes h11 (obsB_yes h10 (obsB_yes h2 (obsB_yes h1 (obsB_yes h0 obsB_nil)))))))))))) (by simp only [cMul, askI, allI, thenI, oneI, endsI, hullI, show (!((0 : Int) == 0)) = false from rfl, show (!((11 : Int) == 0)) = true from rfl, I.zero, h0, h1, h2, h10, h11, h12, h13, h14, h15, h16, cond_true, cond_false, Bool.and_true, Bool.true_and, Bool.and_false, Bool.false_and]) rfl
                  · skip
                    exact calc_path goodG (oracleIMul hf) (cmul_p5 f t n a b c d) (obsB_yes h15 (obsB_yes h15 (obsB_yes h14 (obsB_yes h13 (obsB_yes h12 (obsB_yes h11 (obsB_yes h10 (obsB_yes h2 (obsB_yes h1 (obsB_yes h0 obsB_nil)))))))))) (by simp only [cMul, askI, allI, thenI, oneI, endsI, hullI, show (!((0 : Int) == 0)) = false from rfl, show (!((11 : Int) == 0)) = true from rfl, I.zero, h0, h1, h2, h10, h11, h12, h13, h14, h15, cond_true, cond_false, Bool.and_true, Bool.true_and, Bool.and_false, Bool.false_and]) rfl
                · skip
                  exact calc_path goodG (oracleIMul hf) (cmul_p6 f t n a b c d) (obsB_yes h14 (obsB_yes h14 (obsB_yes h14 (obsB_yes h13 (obsB_yes h12 (obsB_yes h11 (obsB_yes h10 (obsB_yes h2 (obsB_yes h1 (obsB_yes h0 obsB_nil)))))))))) (by simp only [cMul, askI, allI, thenI, oneI, endsI, hullI, show (!((0 : Int) == 0)) = false from rfl, show (!((11 : Int) == 0)) = true from rfl, I.zero, h0, h1, h2, h10, h11, h12, h13, h14, cond_true, cond_false, Bool.and_true, Bool.true_and, Bool.and_false, Bool.false_and]) rfl
              · skip
                exact calc_path goodG (oracleIMul hf) (cmul_p7 f t n a b c d) (obsB_yes h13 (obsB_yes h13 (obsB_yes h12 (obsB_yes h11 (obsB_yes h10 (obsB_yes h2 (obsB_yes h1 (obsB_yes h0 obsB_nil)))))))) (by simp only [cMul, askI, allI, thenI, oneI, endsI, hullI, show (!((0 : Int) == 0)) = false from rfl, show (!((11 : Int) == 0)) = true from rfl, I.zero, h0, h1, h2, h10, h11, h12, h13, cond_true, cond_false, Bool.and_true, Bool.true_and, Bool.and_false, Bool.false_and]) rfl
            · skip
              exact calc_path goodG (oracleIMul hf) (cmul_p8 f t n a b c d) (obsB_yes h12 (obsB_yes h12 (obsB_yes h12 (obsB_yes h11 (obsB_yes h10 (obsB_yes h2 (obsB_yes h1 (obsB_yes h0 obsB_nil)))))))) (by simp only [cMul, askI, allI, thenI, oneI, endsI, hullI, show (!((0 : Int) == 0)) = false from rfl, show (!((11 : Int) == 0)) = true from rfl, I.zero, h0, h1, h2, h10, h11, h12, cond_true, cond_false, Bool.and_true, Bool.true_and, Bool.and_false, Bool.false_and]) rfl
          · skip
            exact calc_path goodG (oracleIMul hf) (cmul_p9 f t n a b c d) (obsB_yes h11 (obsB_yes h11 (obsB_yes h10 (obsB_yes h2 (obsB_yes h1 (obsB_yes h0 obsB_nil)))))) (by simp only [cMul, askI, allI, thenI, oneI, endsI, hullI, show (!((0 : Int) == 0)) = false from rfl, show (!((11 : Int) == 0)) = true from rfl, I.zero, h0, h1, h2, h10, h11, cond_true, cond_false, Bool.and_true, Bool.true_and, Bool.and_false, Bool.false_and]) rfl
        · skip
          exact calc_path goodG (oracleIMul hf) (cmul_p10 f t n a b c d) (obsB_yes h10 (obsB_yes h10 (obsB_yes h10 (obsB_yes h2 (obsB_yes h1 (obsB_yes h0 obsB_nil)))))) (by simp only [cMul, askI, allI, thenI, oneI, endsI, hullI, show (!((0 : Int) == 0)) = false from rfl, show (!((11 : Int) == 0)) = true from rfl, I.zero, h0, h1, h2, h10, cond_true, cond_false, Bool.and_true, Bool.true_and, Bool.and_false, Bool.false_and]) rfl
  · skip
    exact calc_path goodG (oracleIMul hf) (cmul_p11 f t n a b c d) (obsB_yes h0 obsB_nil) (by simp only [cMul, askI, allI, thenI, oneI, endsI, hullI, show (!((0 : Int) == 0)) = false from rfl, show (!((11 : Int) == 0)) = true from rfl, I.zero, h0, cond_true, cond_false, Bool.and_true, Bool.true_and, Bool.and_false, Bool.false_and]) rfl
def OIDiv (f : Bool → F → F → F × Int) : OracleF := lookO [(55, plainO oRt), (41, plainO oHas), (75, plainO (oI2 hullI)), (42, plainO (kTwo f))]
theorem oracleIDiv {f : Bool → F → F → F × Int} (hf : PlainOk Tryz.prog 42 (kTwo f)) : OracleOk Tryz.prog (OIDiv f) := .cons irightG.of (.cons ihasG.of (.cons hullG.of (.cons hf.of (.nil _))))
theorem cdiv_p0 (f : Bool → F → F → F × Int) (t : Nat) (n : Int) (a b c d : F) : takeR 1 ((run Tryz.prog EG (OIDiv f) 60).1 17 (.p 0 0 :: [.agg [.fl a, .fl b], .agg [.fl c, .fl d]]) [⟨t, [.si .i64 n]⟩] (some [false, false])) = some (.agg [.fl F.zero, .fl F.zero], [⟨t, [.i .i64 20]⟩], some [], [(rt ⟨a, b⟩, false), ((!(n == 0)), false)]) := by kernel_rfl
theorem cdiv_p1 (f : Bool → F → F → F × Int) (t : Nat) (n : Int) (a b c d : F) : takeR 1 ((run Tryz.prog EG (OIDiv f) 60).1 17 (.p 0 0 :: [.agg [.fl a, .fl b], .agg [.fl c, .fl d]]) [⟨t, [.si .i64 n]⟩] (some [false, true, false])) = some (.agg [.fl F.zero, .fl F.zero], [⟨t, [.i .i64 20]⟩], some [], [(rt ⟨c, d⟩, false), (rt ⟨a, b⟩, true), ((!(n == 0)), false)]) := by kernel_rfl
theorem cdiv_p2 (f : Bool → F → F → F × Int) (t : Nat) (n : Int) (a b c d : F) : takeR 1 ((run Tryz.prog EG (OIDiv f) 60).1 17 (.p 0 0 :: [.agg [.fl a, .fl b], .agg [.fl c, .fl d]]) [⟨t, [.si .i64 n]⟩] (some [false, true, true, false, false, false, false, false, false, false, false, false])) = some (.agg [.fl (mnF (mnF (mnF (mnF (f false a c).1 (f false a c).1) (f false a d).1) (f false b c).1) (f false b d).1), .fl (mxF (mxF (mxF (mxF (f true a c).1 (f true a c).1) (f true a d).1) (f true b c).1) (f true b d).1)], [⟨t, [.si .i64 n]⟩], some [], [((!((f true b d).2 == 0)), false), ((!((f false b d).2 == 0)), false), ((!((f true b c).2 == 0)), false), ((!((f false b c).2 == 0)), false), ((!((f true a d).2 == 0)), false), ((!((f false a d).2 == 0)), false), ((!((f true a c).2 == 0)), false), ((!((f false a c).2 == 0)), false), (hasB ⟨c, d⟩ F.zero, false), (rt ⟨c, d⟩, true), (rt ⟨a, b⟩, true), ((!(n == 0)), false)]) := by kernel_rfl
theorem cdiv_p3 (f : Bool → F → F → F × Int) (t : Nat) (n : Int) (a b c d : F) : takeR 1 ((run Tryz.prog EG (OIDiv f) 60).1 17 (.p 0 0 :: [.agg [.fl a, .fl b], .agg [.fl c, .fl d]]) [⟨t, [.si .i64 n]⟩] (some [false, true, true, false, false, false, false, false, false, false, false, true, true])) = some (.agg [.fl F.zero, .fl F.zero], [⟨t, [.si .i64 (f true b d).2]⟩], some [], [((!((f true b d).2 == 0)), true), ((!((f true b d).2 == 0)), true), ((!((f false b d).2 == 0)), false), ((!((f true b c).2 == 0)), false), ((!((f false b c).2 == 0)), false), ((!((f true a d).2 == 0)), false), ((!((f false a d).2 == 0)), false), ((!((f true a c).2 == 0)), false), ((!((f false a c).2 == 0)), false), (hasB ⟨c, d⟩ F.zero, false), (rt ⟨c, d⟩, true), (rt ⟨a, b⟩, true), ((!(n == 0)), false)]) := by kernel_rfl
theorem cdiv_p4 (f : Bool → F → F → F × Int) (t : Nat) (n : Int) (a b c d : F) : takeR 1 ((run Tryz.prog EG (OIDiv f) 60).1 17 (.p 0 0 :: [.agg [.fl a, .fl b], .agg [.fl c, .fl d]]) [⟨t, [.si .i64 n]⟩] (some [false, true, true, false, false, false, false, false, false, false, true, true, true])) = some (.agg [.fl F.zero, .fl F.zero], [⟨t, [.si .i64 (f false b d).2]⟩], some [], [((!((f false b d).2 == 0)), true), ((!((f false b d).2 == 0)), true), ((!((f false b d).2 == 0)), true), ((!((f true b c).2 == 0)), false), ((!((f false b c).2 == 0)), false), ((!((f true a d).2 == 0)), false), ((!((f false a d).2 == 0)), false), ((!((f true a c).2 == 0)), false), ((!((f false a c).2 == 0)), false), (hasB ⟨c, d⟩ F.zero, false), (rt ⟨c, d⟩, true), (rt ⟨a, b⟩, true), ((!(n == 0)), false)]) := by kernel_rfl
theorem cdiv_p5 (f : Bool → F → F → F × Int) (t : Nat) (n : Int) (a b c d : F) : takeR 1 ((run Tryz.prog EG (OIDiv f) 60).1 17 (.p 0 0 :: [.agg [.fl a, .fl b], .agg [.fl c, .fl d]]) [⟨t, [.si .i64 n]⟩] (some [false, true, true, false, false, false, false, false, false, true, true])) = some (.agg [.fl F.zero, .fl F.zero], [⟨t, [.si .i64 (f true b c).2]⟩], some [], [((!((f true b c).2 == 0)), true), ((!((f true b c).2 == 0)), true), ((!((f false b c).2 == 0)), false), ((!((f true a d).2 == 0)), false), ((!((f false a d).2 == 0)), false), ((!((f true a c).2 == 0)), false), ((!((f false a c).2 == 0)), false), (hasB ⟨c, d⟩ F.zero, false), (rt ⟨c, d⟩, true), (rt ⟨a, b⟩, true), ((!(n == 0)), false)]) := by kernel_rfl
theorem cdiv_p6 (f : Bool → F → F → F × Int) (t : Nat) (n : Int) (a b c d : F) : takeR 1 ((run Tryz.prog EG (OIDiv f) 60).1 17 (.p 0 0 :: [.agg [.fl a, .fl b], .agg [.fl c, .fl d]]) [⟨t, [.si .i64 n]⟩] (some [false, true, true, false, false, false, false, false, true, true, true])) = some (.agg [.fl F.zero, .fl F.zero], [⟨t, [.si .i64 (f false b c).2]⟩], some [], [((!((f false b c).2 == 0)), true), ((!((f false b c).2 == 0)), true), ((!((f false b c).2 == 0)), true), ((!((f true a d).2 == 0)), false), ((!((f false a d).2 == 0)), false), ((!((f true a c).2 == 0)), false), ((!((f false a c).2 == 0)), false), (hasB ⟨c, d⟩ F.zero, false), (rt ⟨c, d⟩, true), (rt ⟨a, b⟩, true), ((!(n == 0)), false)]) := by kernel_rfl
theorem cdiv_p7 (f : Bool → F → F → F × Int) (t : Nat) (n : Int) (a b c d : F) : takeR 1 ((run Tryz.prog EG (OIDiv f) 60).1 17 (.p 0 0 :: [.agg [.fl a, .fl b], .agg [.fl c, .fl d]]) [⟨t, [.si .i64 n]⟩] (some [false, true, true, false, false, false, false, true, true])) = some (.agg [.fl F.zero, .fl F.zero], [⟨t, [.si .i64 (f true a d).2]⟩], some [], [((!((f true a d).2 == 0)), true), ((!((f true a d).2 == 0)), true), ((!((f false a d).2 == 0)), false), ((!((f true a c).2 == 0)), false), ((!((f false a c).2 == 0)), false), (hasB ⟨c, d⟩ F.zero, false), (rt ⟨c, d⟩, true), (rt ⟨a, b⟩, true), ((!(n == 0)), false)]) := by kernel_rfl
theorem cdiv_p8 (f : Bool → F → F → F × Int) (t : Nat) (n : Int) (a b c d : F) : takeR 1 ((run Tryz.prog EG (OIDiv f) 60).1 17 (.p 0 0 :: [.agg [.fl a, .fl b], .agg [.fl c, .fl d]]) [⟨t, [.si .i64 n]⟩] (some [false, true, true, false, false, false, true, true, true])) = some (.agg [.fl F.zero, .fl F.zero], [⟨t, [.si .i64 (f false a d).2]⟩], some [], [((!((f false a d).2 == 0)), true), ((!((f false a d).2 == 0)), true), ((!((f false a d).2 == 0)), true), ((!((f true a c).2 == 0)), false), ((!((f false a c).2 == 0)), false), (hasB ⟨c, d⟩ F.zero, false), (rt ⟨c, d⟩, true), (rt ⟨a, b⟩, true), ((!(n == 0)), false)]) := by kernel_rfl
theorem cdiv_p9 (f : Bool → F → F → F × Int) (t : Nat) (n : Int) (a b c d : F) : takeR 1 ((run Tryz.prog EG (OIDiv f) 60).1 17 (.p 0 0 :: [.agg [.fl a, .fl b], .agg [.fl c, .fl d]]) [⟨t, [.si .i64 n]⟩] (some [false, true, true, false, false, true, true])) = some (.agg [.fl F.zero, .fl F.zero], [⟨t, [.si .i64 (f true a c).2]⟩], some [], [((!((f true a c).2 == 0)), true), ((!((f true a c).2 == 0)), true), ((!((f false a c).2 == 0)), false), (hasB ⟨c, d⟩ F.zero, false), (rt ⟨c, d⟩, true), (rt ⟨a, b⟩, true), ((!(n == 0)), false)]) := by kernel_rfl
theorem cdiv_p10 (f : Bool → F → F → F × Int) (t : Nat) (n : Int) (a b c d : F) : takeR 1 ((run Tryz.prog EG (OIDiv f) 60).1 17 (.p 0 0 :: [.agg [.fl a, .fl b], .agg [.fl c, .fl d]]) [⟨t, [.si .i64 n]⟩] (some [false, true, true, false, true, true, true])) = some (.agg [.fl F.zero, .fl F.zero], [⟨t, [.si .i64 (f false a c).2]⟩], some [], [((!((f false a c).2 == 0)), true), ((!((f false a c).2 == 0)), true), ((!((f false a c).2 == 0)), true), (hasB ⟨c, d⟩ F.zero, false), (rt ⟨c, d⟩, true), (rt ⟨a, b⟩, true), ((!(n == 0)), false)]) := by kernel_rfl
theorem cdiv_p11 (f : Bool → F → F → F × Int) (t : Nat) (n : Int) (a b c d : F) : takeR 1 ((run Tryz.prog EG (OIDiv f) 60).1 17 (.p 0 0 :: [.agg [.fl a, .fl b], .agg [.fl c, .fl d]]) [⟨t, [.si .i64 n]⟩] (some [false, true, true, true])) = some (.agg [.fl F.zero, .fl F.zero], [⟨t, [.i .i64 11]⟩], some [], [(hasB ⟨c, d⟩ F.zero, true), (rt ⟨c, d⟩, true), (rt ⟨a, b⟩, true), ((!(n == 0)), false)]) := by kernel_rfl
theorem cdiv_p12 (f : Bool → F → F → F × Int) (t : Nat) (n : Int) (a b c d : F) : takeR 1 ((run Tryz.prog EG (OIDiv f) 60).1 17 (.p 0 0 :: [.agg [.fl a, .fl b], .agg [.fl c, .fl d]]) [⟨t, [.si .i64 n]⟩] (some [true])) = some (.agg [.fl F.zero, .fl F.zero], [⟨t, [.si .i64 n]⟩], some [], [((!(n == 0)), true)]) := by kernel_rfl
theorem cdiv_I {f : Bool → F → F → F × Int} (hf : PlainOk Tryz.prog 42 (kTwo f)) : OfOk Tryz.prog 17 (kC (aII (cDiv f))) := by
  refine ofII fun a b c d t n => ?_
  cases h0 : (!(n == 0))
  · skip
    cases h1 : rt ⟨a, b⟩
    · skip
      exact calc_path goodG (oracleIDiv hf) (cdiv_p0 f t n a b c d) (obsB_yes h1 (obsB_yes h0 obsB_nil)) (by simp only [cDiv, askI, allI, thenI, oneI, endsI, hullI, show (!((0 : Int) == 0)) = false from rfl, show (!((11 : Int) == 0)) = true from rfl, I.zero, h0, h1, cond_true, cond_false, Bool.and_true, Bool.true_and, Bool.and_false, Bool.false_and]) rfl
    · skip
      cases h2 : rt ⟨c, d⟩
      · skip
        exact calc_path goodG (oracleIDiv hf) (cdiv_p1 f t n a b c d) (obsB_yes h2 (obsB_yes h1 (obsB_yes h0 obsB_nil))) (by simp only [cDiv, askI, allI, thenI, oneI, endsI, hullI, show (!((0 : Int) == 0)) = false from rfl, show (!((11 : Int) == 0)) = true from rfl, I.zero, h0, h1, h2, cond_true, cond_false, Bool.and_true, Bool.true_and, Bool.and_false, Bool.false_and]) rfl
      · skip
        cases h9 : hasB ⟨c, d⟩ F.zero
        · skip
          cases h10 : (!((f false a c).2 == 0))
          · skip
            cases h11 : (!((f true a c).2 == 0))
            · skip
              cases h12 : (!((f false a d).2 == 0))
              · skip
                cases h13 : (!((f true a d).2 == 0))
                · skip
                  cases h14 : (!((f false b c).2 == 0))
                  · skip
                    cases h15 : (!((f true b c).2 == 0))
                    · skip
                      cases h16 : (!((f false b d).2 == 0))
                      · skip
                        cases h17 : (!((f true b d).2 == 0))
                        · skip
                          exact calc_path goodG (oracleIDiv hf) (cdiv_p2 f t n a b c d) (obsB_yes h17 (obsB_yes h16 (obsB_yes h15 (obsB_yes h14 (obsB_yes h13 (obsB_yes h12 (obsB_yes h11 (obsB_yes h10 (obsB_yes h9 (obsB_yes h2 (obsB_yes h1 (obsB_yes h0 obsB_nil)))))))))))) (by simp only [cDiv, askI, allI, thenI, oneI, endsI, hullI, show (!((0 : Int) == 0)) = false from rfl, show (!((11 : Int) == 0)) = true from rfl, I.zero, h0, h1, h2, h9, h10, h11, h12, h13, h14, h15, h16, h17, cond_true, cond_false, Bool.and_true, Bool.true_and, Bool.and_false, Bool.false_and]) rfl
                        · skip
                          exact calc_path goodG (oracleIDiv hf) (cdiv_p3 f t n a b c d) (obsB_yes h17 (obsB_yes h17 (obsB_yes h16 (obsB_yes h15 (obsB_yes h14 (obsB_yes h13 (obsB_yes h12 (obsB_yes h11 (obsB_yes h10 (obsB_yes h9 (obsB_yes h2 (obsB_yes h1 (obsB_yes h0 obsB_nil))))))))))))) (by simp only [cDiv, askI, allI, thenI, oneI, endsI, hullI, show (!((0 : Int) == 0)) = false from rfl, show (!((11 : Int) == 0)) = true from rfl, I.zero, h0, h1, h2, h9, h10, h11, h12, h13, h14, h15, h16, h17, cond_true, cond_false, Bool.and_true, Bool.true_and, Bool.and_false, Bool.false_and]) rfl
                      · skip
                        exact calc_path goodG (oracleIDiv hf) (cdiv_p4 f t n a b c d) (obsB_yes h16 (obsB_yes h16 (obsB_yes h16 (obsB_yes h15 (obsB_yes h14 (obsB_yes h13 (obsB_yes h12 (obsB_yes h11 (obsB_yes h10 (obsB_yes h9 (obsB_yes h2 (obsB_yes h1 (obsB_yes h0 obsB_nil))))))))))))) (by simp only [cDiv, askI, allI, thenI, oneI, endsI, hullI, show (!((0 : Int) == 0)) = false from rfl, show (!((11 : Int) == 0)) = true from rfl, I.zero, h0, h1, h2, h9, h10, h11, h12, h13, h14, h15, h16, cond_true, cond_false, Bool.and_true, Bool.true_and, Bool.and_false, Bool.false_and]) rfl
                    · skip
                      exact calc_path goodG (oracleIDiv hf) (cdiv_p5 f t n a b c d) (obsB_yes h15 (obsB_yes h15 (obsB_yes h14 (obsB_yes h13 (obsB_yes h12 (obsB_yes h11 (obsB_yes h10 (obsB_yes h9 (obsB_yes h2 (obsB_yes h1 (obsB_yes h0 obsB_nil))))))))))) (by simp only [cDiv, askI, allI, thenI, oneI, endsI, hullI, show (!((0 : Int) == 0)) = false from rfl, show (!((11 : Int) == 0)) = true from rfl, I.zero, h0, h1, h2, h9, h10, h11, h12, h13, h14, h15, cond_true, cond_false, Bool.and_true, Bool.true_and, Bool.and_false, Bool.false_and]) rfl
                  · skip
                    exact calc_path goodG (oracleIDiv hf) (cdiv_p6 f t n a b c d) (obsB_yes h14 (obsB_yes h14 (obsB_yes h14 (obsB_yes h13 (obsB_yes h12 (obsB_yes h11 (obsB_yes h10 (obsB_yes h9 (obsB_yes h2 (obsB_yes h1 (obsB_yes h0 obsB_nil))))))))))) (by simp only [cDiv, askI, allI, thenI, oneI, endsI, hullI, show (!((0 : Int) == 0)) = false from rfl, show (!((11 : Int) == 0)) = true from rfl, I.zero, h0, h1, h2, h9, h10, h11, h12, h13, h14, cond_true, cond_false, Bool.and_true, Bool.true_and, Bool.and_false, Bool.false_and]) rfl
                · skip
                  exact calc_path goodG (oracleIDiv hf) (cdiv_p7 f t n a b c d) (obsB_yes h13 (obsB_yes h13 (obsB_yes h12 (obsB_yes h11 (obsB_yes h10 (obsB_yes h9 (obsB_yes h2 (obsB_yes h1 (obsB_yes h0 obsB_nil))))))))) (by simp only [cDiv, askI, allI, thenI, oneI, endsI, hullI, show (!((0 : Int) == 0)) = false from rfl, show (!((11 : Int) == 0)) = true from rfl, I.zero, h0, h1, h2, h9, h10, h11, h12, h13, cond_true, cond_false, Bool.and_true, Bool.true_and, Bool.and_false, Bool.false_and]) rfl
              · skip
                exact calc_path goodG (oracleIDiv hf) (cdiv_p8 f t n a b c d) (obsB_yes h12 (obsB_yes h12 (obsB_yes h12 (obsB_yes h11 (obsB_yes h10 (obsB_yes h9 (obsB_yes h2 (obsB_yes h1 (obsB_yes h0 obsB_nil))))))))) (by simp only [cDiv, askI, allI, thenI, oneI, endsI, hullI, show (!((0 : Int) == 0)) = false from rfl, show (!((11 : Int) == 0)) = true from rfl, I.zero, h0, h1, h2, h9, h10, h11, h12, cond_true, cond_false, Bool.and_true, Bool.true_and, Bool.and_false, Bool.false_and]) rfl
            · skip
              exact calc_path goodG (oracleIDiv hf) (cdiv_p9 f t n a b c d) (obsB_yes h11 (obsB_yes h11 (obsB_yes h10 (obsB_yes h9 (obsB_yes h2 (obsB_yes h1 (obsB_yes h0 obsB_nil))))))) (by simp only [cDiv, askI, allI, thenI, oneI, endsI, hullI, show (!((0 : Int) == 0)) = false from rfl, show (!((11 : Int) == 0)) = true from rfl, I.zero, h0, h1, h2, h9, h10, h11, cond_true, cond_false, Bool.and_true, Bool.true_and, Bool.and_false, Bool.false_and]) rfl
          · skip
            exact calc_path goodG (oracleIDiv hf) (cdiv_p10 f t n a b c d) (obsB_yes h10 (obsB_yes h10 (obsB_yes h10 (obsB_yes h9 (obsB_yes h2 (obsB_yes h1 (obsB_yes h0 obsB_nil))))))) (by simp only [cDiv, askI, allI, thenI, oneI, endsI, hullI, show (!((0 : Int) == 0)) = false from rfl, show (!((11 : Int) == 0)) = true from rfl, I.zero, h0, h1, h2, h9, h10, cond_true, cond_false, Bool.and_true, Bool.true_and, Bool.and_false, Bool.false_and]) rfl
        · skip
          exact calc_path goodG (oracleIDiv hf) (cdiv_p11 f t n a b c d) (obsB_yes h9 (obsB_yes h2 (obsB_yes h1 (obsB_yes h0 obsB_nil)))) (by simp only [cDiv, askI, allI, thenI, oneI, endsI, hullI, show (!((0 : Int) == 0)) = false from rfl, show (!((11 : Int) == 0)) = true from rfl, I.zero, h0, h1, h2, h9, cond_true, cond_false, Bool.and_true, Bool.true_and, Bool.and_false, Bool.false_and]) rfl
  · skip
    exact calc_path goodG (oracleIDiv hf) (cdiv_p12 f t n a b c d) (obsB_yes h0 obsB_nil) (by simp only [cDiv, askI, allI, thenI, oneI, endsI, hullI, show (!((0 : Int) == 0)) = false from rfl, show (!((11 : Int) == 0)) = true from rfl, I.zero, h0, cond_true, cond_false, Bool.and_true, Bool.true_and, Bool.and_false, Bool.false_and]) rfl
def OISqr (f : Bool → F → F → F × Int) : OracleF := lookO [(55, plainO oRt), (117, plainO (oI1 bareI)), (48, plainO (kTwo f))]
theorem oracleISqr {f : Bool → F → F → F × Int} (hf : PlainOk Tryz.prog 48 (kTwo f)) : OracleOk Tryz.prog (OISqr f) := .cons irightG.of (.cons bareG.of (.cons hf.of (.nil _)))
theorem csqr_p0 (f : Bool → F → F → F × Int) (t : Nat) (n : Int) (a b : F) : takeR 1 ((run Tryz.prog EG (OISqr f) 60).1 85 (.p 0 0 :: [.agg [.fl a, .fl b]]) [⟨t, [.si .i64 n]⟩] (some [false, false])) = some (.agg [.fl F.zero, .fl F.zero], [⟨t, [.i .i64 20]⟩], some [], [(rt ⟨a, b⟩, false), ((!(n == 0)), false)]) := by kernel_rfl
theorem csqr_p1 (f : Bool → F → F → F × Int) (t : Nat) (n : Int) (a b : F) : takeR 1 ((run Tryz.prog EG (OISqr f) 60).1 85 (.p 0 0 :: [.agg [.fl a, .fl b]]) [⟨t, [.si .i64 n]⟩] (some [false, true, false, false])) = some (.agg [.fl (f false (bareI ⟨a, b⟩).lo (bareI ⟨a, b⟩).lo).1, .fl (f true (bareI ⟨a, b⟩).hi (bareI ⟨a, b⟩).hi).1], [⟨t, [.si .i64 n]⟩], some [], [((!((f true (bareI ⟨a, b⟩).hi (bareI ⟨a, b⟩).hi).2 == 0)), false), ((!((f false (bareI ⟨a, b⟩).lo (bareI ⟨a, b⟩).lo).2 == 0)), false), (rt ⟨a, b⟩, true), ((!(n == 0)), false)]) := by kernel_rfl
theorem csqr_p2 (f : Bool → F → F → F × Int) (t : Nat) (n : Int) (a b : F) : takeR 1 ((run Tryz.prog EG (OISqr f) 60).1 85 (.p 0 0 :: [.agg [.fl a, .fl b]]) [⟨t, [.si .i64 n]⟩] (some [false, true, false, true])) = some (.agg [.fl F.zero, .fl F.zero], [⟨t, [.si .i64 (f true (bareI ⟨a, b⟩).hi (bareI ⟨a, b⟩).hi).2]⟩], some [], [((!((f true (bareI ⟨a, b⟩).hi (bareI ⟨a, b⟩).hi).2 == 0)), true), ((!((f false (bareI ⟨a, b⟩).lo (bareI ⟨a, b⟩).lo).2 == 0)), false), (rt ⟨a, b⟩, true), ((!(n == 0)), false)]) := by kernel_rfl
theorem csqr_p3 (f : Bool → F → F → F × Int) (t : Nat) (n : Int) (a b : F) : takeR 1 ((run Tryz.prog EG (OISqr f) 60).1 85 (.p 0 0 :: [.agg [.fl a, .fl b]]) [⟨t, [.si .i64 n]⟩] (some [false, true, true, true])) = some (.agg [.fl F.zero, .fl F.zero], [⟨t, [.si .i64 (f false (bareI ⟨a, b⟩).lo (bareI ⟨a, b⟩).lo).2]⟩], some [], [((!((f false (bareI ⟨a, b⟩).lo (bareI ⟨a, b⟩).lo).2 == 0)), true), ((!((f false (bareI ⟨a, b⟩).lo (bareI ⟨a, b⟩).lo).2 == 0)), true), (rt ⟨a, b⟩, true), ((!(n == 0)), false)]) := by kernel_rfl
theorem csqr_p4 (f : Bool → F → F → F × Int) (t : Nat) (n : Int) (a b : F) : takeR 1 ((run Tryz.prog EG (OISqr f) 60).1 85 (.p 0 0 :: [.agg [.fl a, .fl b]]) [⟨t, [.si .i64 n]⟩] (some [true])) = some (.agg [.fl F.zero, .fl F.zero], [⟨t, [.si .i64 n]⟩], some [], [((!(n == 0)), true)]) := by kernel_rfl
theorem csqr_I {f : Bool → F → F → F × Int} (hf : PlainOk Tryz.prog 48 (kTwo f)) : OfOk Tryz.prog 85 (kC (aI (cSqr f))) := by
  refine ofI fun a b t n => ?_
  cases h0 : (!(n == 0))
  · skip
    cases h1 : rt ⟨a, b⟩
    · skip
      exact calc_path goodG (oracleISqr hf) (csqr_p0 f t n a b) (obsB_yes h1 (obsB_yes h0 obsB_nil)) (by simp only [cSqr, askI, endsI, I.zero, h0, h1, cond_true, cond_false, Bool.and_true, Bool.true_and, Bool.and_false, Bool.false_and]) rfl
    · skip
      cases h3 : (!((f false (bareI ⟨a, b⟩).lo (bareI ⟨a, b⟩).lo).2 == 0))
      · skip
        cases h4 : (!((f true (bareI ⟨a, b⟩).hi (bareI ⟨a, b⟩).hi).2 == 0))
        · skip
          exact calc_path goodG (oracleISqr hf) (csqr_p1 f t n a b) (obsB_yes h4 (obsB_yes h3 (obsB_yes h1 (obsB_yes h0 obsB_nil)))) (by simp only [cSqr, askI, endsI, I.zero, h0, h1, h3, h4, cond_true, cond_false, Bool.and_true, Bool.true_and, Bool.and_false, Bool.false_and]) rfl
        · skip
          exact calc_path goodG (oracleISqr hf) (csqr_p2 f t n a b) (obsB_yes h4 (obsB_yes h3 (obsB_yes h1 (obsB_yes h0 obsB_nil)))) (by simp only [cSqr, askI, endsI, I.zero, h0, h1, h3, h4, cond_true, cond_false, Bool.and_true, Bool.true_and, Bool.and_false, Bool.false_and]) rfl
      · skip
        exact calc_path goodG (oracleISqr hf) (csqr_p3 f t n a b) (obsB_yes h3 (obsB_yes h3 (obsB_yes h1 (obsB_yes h0 obsB_nil)))) (by simp only [cSqr, askI, endsI, I.zero, h0, h1, h3, cond_true, cond_false, Bool.and_true, Bool.true_and, Bool.and_false, Bool.false_and]) rfl
  · skip
    exact calc_path goodG (oracleISqr hf) (csqr_p4 f t n a b) (obsB_yes h0 obsB_nil) (by simp only [cSqr, askI, endsI, I.zero, h0, cond_true, cond_false, Bool.and_true, Bool.true_and, Bool.and_false, Bool.false_and]) rfl
def OIN : OracleF := lookO [(50, plainO oRight), (55, plainO oRt), (132, plainO (oI1 turnI)), (117, plainO (oI1 bareI))]
theorem oracleIN : OracleOk Tryz.prog OIN := .cons rightG.of (.cons irightG.of (.cons turnG.of (.cons bareG.of (.nil _))))
theorem cnum_p0  (t : Nat) (n : Int) (a : F) : takeR 1 ((run Tryz.prog EG (OIN) 60).1 18 (.p 0 0 :: [.fl a]) [⟨t, [.si .i64 n]⟩] (some [false])) = some (.agg [.fl a, .fl a], [⟨t, [.si .i64 n]⟩], some [], [((!(n == 0)), false)]) := by kernel_rfl
theorem cnum_p1  (t : Nat) (n : Int) (a : F) : takeR 1 ((run Tryz.prog EG (OIN) 60).1 18 (.p 0 0 :: [.fl a]) [⟨t, [.si .i64 n]⟩] (some [true])) = some (.agg [.fl F.zero, .fl F.zero], [⟨t, [.si .i64 n]⟩], some [], [((!(n == 0)), true)]) := by kernel_rfl
theorem cnum_I  : OfOk Tryz.prog 18 (kC (aF cNum)) := by
  refine ofF fun a t n => ?_
  cases h0 : (!(n == 0))
  · skip
    exact calc_path goodG oracleIN (cnum_p0  t n a) (obsB_yes h0 obsB_nil) (by simp only [cNum, askI, show (!((0 : Int) == 0)) = false from rfl, I.zero, h0, cond_true, cond_false, Bool.and_true, Bool.true_and, Bool.and_false, Bool.false_and]) rfl
  · skip
    exact calc_path goodG oracleIN (cnum_p1  t n a) (obsB_yes h0 obsB_nil) (by simp only [cNum, askI, show (!((0 : Int) == 0)) = false from rfl, I.zero, h0, cond_true, cond_false, Bool.and_true, Bool.true_and, Bool.and_false, Bool.false_and]) rfl
theorem cmax_p0  (t : Nat) (n : Int) (a b c d : F) : takeR 1 ((run Tryz.prog EG (OIN) 60).1 101 (.p 0 0 :: [.agg [.fl a, .fl b], .agg [.fl c, .fl d]]) [⟨t, [.si .i64 n]⟩] (some [false, false])) = some (.agg [.fl F.zero, .fl F.zero], [⟨t, [.i .i64 20]⟩], some [], [(rt ⟨a, b⟩, false), ((!(n == 0)), false)]) := by kernel_rfl
theorem cmax_p1  (t : Nat) (n : Int) (a b c d : F) : takeR 1 ((run Tryz.prog EG (OIN) 60).1 101 (.p 0 0 :: [.agg [.fl a, .fl b], .agg [.fl c, .fl d]]) [⟨t, [.si .i64 n]⟩] (some [false, true, false])) = some (.agg [.fl F.zero, .fl F.zero], [⟨t, [.i .i64 20]⟩], some [], [(rt ⟨c, d⟩, false), (rt ⟨a, b⟩, true), ((!(n == 0)), false)]) := by kernel_rfl
theorem cmax_p2  (t : Nat) (n : Int) (a b c d : F) : takeR 1 ((run Tryz.prog EG (OIN) 60).1 101 (.p 0 0 :: [.agg [.fl a, .fl b], .agg [.fl c, .fl d]]) [⟨t, [.si .i64 n]⟩] (some [false, true, true])) = some (.agg [.fl (mxF a c), .fl (mxF b d)], [⟨t, [.si .i64 n]⟩], some [], [(rt ⟨c, d⟩, true), (rt ⟨a, b⟩, true), ((!(n == 0)), false)]) := by kernel_rfl
theorem cmax_p3  (t : Nat) (n : Int) (a b c d : F) : takeR 1 ((run Tryz.prog EG (OIN) 60).1 101 (.p 0 0 :: [.agg [.fl a, .fl b], .agg [.fl c, .fl d]]) [⟨t, [.si .i64 n]⟩] (some [true])) = some (.agg [.fl F.zero, .fl F.zero], [⟨t, [.si .i64 n]⟩], some [], [((!(n == 0)), true)]) := by kernel_rfl
theorem cmax_I  : OfOk Tryz.prog 101 (kC (aII cMax)) := by
  refine ofII fun a b c d t n => ?_
  cases h0 : (!(n == 0))
  · skip
    cases h1 : rt ⟨a, b⟩
    · skip
      exact calc_path goodG oracleIN (cmax_p0  t n a b c d) (obsB_yes h1 (obsB_yes h0 obsB_nil)) (by simp only [cMax, maxI, askI, show (!((0 : Int) == 0)) = false from rfl, I.zero, h0, h1, cond_true, cond_false, Bool.and_true, Bool.true_and, Bool.and_false, Bool.false_and]) rfl
    · skip
      cases h2 : rt ⟨c, d⟩
      · skip
        exact calc_path goodG oracleIN (cmax_p1  t n a b c d) (obsB_yes h2 (obsB_yes h1 (obsB_yes h0 obsB_nil))) (by simp only [cMax, maxI, askI, show (!((0 : Int) == 0)) = false from rfl, I.zero, h0, h1, h2, cond_true, cond_false, Bool.and_true, Bool.true_and, Bool.and_false, Bool.false_and]) rfl
      · skip
        exact calc_path goodG oracleIN (cmax_p2  t n a b c d) (obsB_yes h2 (obsB_yes h1 (obsB_yes h0 obsB_nil))) (by simp only [cMax, maxI, askI, show (!((0 : Int) == 0)) = false from rfl, I.zero, h0, h1, h2, cond_true, cond_false, Bool.and_true, Bool.true_and, Bool.and_false, Bool.false_and]) rfl
  · skip
    exact calc_path goodG oracleIN (cmax_p3  t n a b c d) (obsB_yes h0 obsB_nil) (by simp only [cMax, maxI, askI, show (!((0 : Int) == 0)) = false from rfl, I.zero, h0, cond_true, cond_false, Bool.and_true, Bool.true_and, Bool.and_false, Bool.false_and]) rfl
end Go.Proofs.YtlhlcefkmhhmjaaGreat
