/- burnishref02: the methods of Calc, as the document tells them (written by gencalc2.py). -/
import Derived.Test.YtmhhopfffeijnaaGreatZ22
import Derived.Test.YtmhhopfffeijnaaGreatZ11
namespace Go.Proofs.YtmhhopfffeijnaaGreat
set_option linter.all false
open Go.RowKit Bu Rx

def OQR : OracleF := lookO [(97, plainO oRight)]
theorem oracleQR : OracleOk Tryz.prog OQR := .cons rRightP.of (.nil _)
theorem rrtRun (a b : F) (d : Bool) : valR ((run Tryz.prog EH OQR 60).1 28 [.agg [.fl a, .fl b]] [] (some [d])) = some (.b d, some [], [(decide (a.k ≤ b.k), d)]) := by cases d <;> kernel_rfl
theorem rrtG : PlainOk Tryz.prog 28 oRt := by
  intro args ds x ds' ob h ho
  unfold oRt at h
  split at h
  · rename_i a b
    simp only [Option.map_eq_some_iff, Prod.mk.injEq] at h
    obtain ⟨⟨d, e, o⟩, h1, rfl, rfl, rfl⟩ := h
    have hd : d = decide (a.k ≤ b.k) := takeB_ok h1 ho
    refine ⟨[.agg #[.float .f64 a.b, .float .f64 b.b]], .bool d, rfl, rfl, fun w => ?_⟩
    exact calls_of_val goodH oracleQR 60 (rrtRun a b d) (ObsOk.of_B (obsB_yes hd.symm obsB_nil)) rfl rfl w
  · cases h
def OQ0 : OracleF := lookO []
theorem oracleQ0 : OracleOk Tryz.prog OQ0 := .nil _
def kF2 (f : F → F → F) : List SV → Dec → Option (SV × Dec × Obs)
  | [.fl a, .fl b], ds => some (.fl (f a b), ds, [])
  | _, _ => none
def kF1 (f : F → F) : List SV → Dec → Option (SV × Dec × Obs)
  | [.fl a], ds => some (.fl (f a), ds, [])
  | _, _ => none
theorem f2_ok {g : FuncId} {f : F → F → F} (h : ∀ a b w, Calls Tryz.prog g #[.float .f64 a.b, .float .f64 b.b] w fun e w' => e = .returned (.float .f64 (f a b).b) ∧ Below w.heap.size w w') : PlainOk Tryz.prog g (kF2 f) := by
  intro args ds x ds' ob h1 ho
  unfold kF2 at h1
  split at h1
  · rename_i a b
    simp only [Option.some.injEq, Prod.mk.injEq] at h1
    obtain ⟨rfl, _, _⟩ := h1
    exact ⟨[.float .f64 a.b, .float .f64 b.b], _, rfl, rfl, h a b⟩
  · cases h1
theorem f1_ok {g : FuncId} {f : F → F} (h : ∀ a w, Calls Tryz.prog g #[.float .f64 a.b] w fun e w' => e = .returned (.float .f64 (f a).b) ∧ Below w.heap.size w w') : PlainOk Tryz.prog g (kF1 f) := by
  intro args ds x ds' ob h1 ho
  unfold kF1 at h1
  split at h1
  · rename_i a
    simp only [Option.some.injEq, Prod.mk.injEq] at h1
    obtain ⟨rfl, _, _⟩ := h1
    exact ⟨[.float .f64 a.b], _, rfl, rfl, h a⟩
  · cases h1
theorem lessRun (a b : F) (d : Bool) : valR ((run Tryz.prog EH OQ0 60).1 101 [.fl a, .fl b] [] (some [d])) = some (.fl (bif d then b else a), some [], [(decide (b.k < a.k), d)]) := by cases d <;> kernel_rfl
theorem moreRun (a b : F) (d : Bool) : valR ((run Tryz.prog EH OQ0 60).1 102 [.fl a, .fl b] [] (some [d])) = some (.fl (bif d then b else a), some [], [(decide (a.k < b.k), d)]) := by cases d <;> kernel_rfl
theorem less_eq (a b : F) : (bif decide (b.k < a.k) then b else a) = mnF a b := by
  apply F.ext'
  rw [mnF_k]
  cases h : decide (b.k < a.k)
  · have := of_decide_eq_false h; show a.k = _; omega
  · have := of_decide_eq_true h; show b.k = _; omega
theorem more_eq (a b : F) : (bif decide (a.k < b.k) then b else a) = mxF a b := by
  apply F.ext'
  rw [mxF_k]
  cases h : decide (a.k < b.k)
  · have := of_decide_eq_false h; show a.k = _; omega
  · have := of_decide_eq_true h; show b.k = _; omega
theorem rlessG : PlainOk Tryz.prog 101 (kF2 mnF) := f2_ok fun a b w => by
  rw [← less_eq]
  exact calls_of_val goodH oracleQ0 60 (lessRun a b _) (ObsOk.of_B (obsB_yes rfl obsB_nil)) rfl rfl w
theorem moreG : PlainOk Tryz.prog 102 (kF2 mxF) := f2_ok fun a b w => by
  rw [← more_eq]
  exact calls_of_val goodH oracleQ0 60 (moreRun a b _) (ObsOk.of_B (obsB_yes rfl obsB_nil)) rfl rfl w
theorem minusRun0 (a : F) : valR ((run Tryz.prog EH OQ0 60).1 154 [.fl a] [] (some [false])) = some (.fl a.neg, some [], [(!decide (a.k = 0), true), (decide (a.k = (toF 0).k), false)]) := by kernel_rfl
theorem minusRun1 (a : F) : valR ((run Tryz.prog EH OQ0 60).1 154 [.fl a] [] (some [true])) = some (.fl F.zero, some [], [(decide (a.k = (toF 0).k), true)]) := by kernel_rfl
theorem minusG : PlainOk Tryz.prog 154 (kF1 F.neg) := f1_ok fun a w => by
  by_cases h : a.k = 0
  · have e : a = F.zero := F.ext' h
    subst e
    rw [F.neg_zero]
    exact calls_of_val goodH oracleQ0 60 (minusRun1 F.zero) (ObsOk.of_B (obsB_yes (decide_eq_true (by rw [zero_k']; rfl)) obsB_nil)) rfl rfl w
  · exact calls_of_val goodH oracleQ0 60 (minusRun0 a) (ObsOk.of_B (obsB_yes (by rw [decide_eq_false h]; rfl) (obsB_yes (k_ne0 h) obsB_nil))) rfl rfl w
def OQH (l m : F → F → F) : OracleF := lookO [(101, plainO (kF2 l)), (102, plainO (kF2 m)), (28, plainO oRt)]
theorem oracleQH : OracleOk Tryz.prog (OQH mnF mxF) := .cons rlessG.of (.cons moreG.of (.cons rrtG.of (.nil _)))
theorem rhullRun (l m : F → F → F) (a b c d : F) : valR ((run Tryz.prog EH (OQH l m) 60).1 30 [.agg [.fl a, .fl b], .agg [.fl c, .fl d]] [] (some [])) = some (.agg [.fl (l a c), .fl (m b d)], some [], []) := by kernel_rfl
theorem rhullG : PlainOk Tryz.prog 30 (oI2 hullI) := by
  intro args ds x ds' ob h ho
  unfold oI2 at h
  split at h
  · rename_i a b c d
    simp only [Option.some.injEq, Prod.mk.injEq] at h
    obtain ⟨rfl, _, _⟩ := h
    exact ⟨[.agg #[.float .f64 a.b, .float .f64 b.b], .agg #[.float .f64 c.b, .float .f64 d.b]], _, rfl, rfl, fun w => calls_of_val goodH oracleQH 60 (rhullRun mnF mxF a b c d) (ObsOk.of_B obsB_nil) rfl rfl w⟩
  · cases h
theorem mx_comm (a b : F) : mxF a b = mxF b a := F.ext' (by rw [mxF_k, mxF_k]; omega)

def OQAdd (f : Bool → F → F → F × Int) : OracleF := lookO [(28, plainO oRt), (135, plainO (kTwo f))]
theorem oracleQAdd {f : Bool → F → F → F × Int} (hf : PlainOk Tryz.prog 135 (kTwo f)) : OracleOk Tryz.prog (OQAdd f) := .cons rrtG.of (.cons hf.of (.nil _))
theorem radd_p0 (f : Bool → F → F → F × Int) (t : Nat) (n : Int) (a b c d : F) : takeR 1 ((run Tryz.prog EH (OQAdd f) 80).1 73 (.p 0 0 :: [.agg [.fl a, .fl b], .agg [.fl c, .fl d]]) [⟨t, [.si .i64 n]⟩] (some [true, false])) = some (.agg [.fl F.zero, .fl F.zero], [⟨t, [.i .i64 20]⟩], some [], [(rt ⟨a, b⟩, false), (decide (n = 0), true)]) := by kernel_rfl
theorem radd_p1 (f : Bool → F → F → F × Int) (t : Nat) (n : Int) (a b c d : F) : takeR 1 ((run Tryz.prog EH (OQAdd f) 80).1 73 (.p 0 0 :: [.agg [.fl a, .fl b], .agg [.fl c, .fl d]]) [⟨t, [.si .i64 n]⟩] (some [true, true, true, false])) = some (.agg [.fl F.zero, .fl F.zero], [⟨t, [.i .i64 20]⟩], some [], [(rt ⟨c, d⟩, false), (decide (n = 0), true), (rt ⟨a, b⟩, true), (decide (n = 0), true)]) := by kernel_rfl
theorem radd_p2 (f : Bool → F → F → F × Int) (t : Nat) (n : Int) (a b c d : F) : takeR 1 ((run Tryz.prog EH (OQAdd f) 80).1 73 (.p 0 0 :: [.agg [.fl a, .fl b], .agg [.fl c, .fl d]]) [⟨t, [.si .i64 n]⟩] (some [true, true, true, true, true, false, false, false, false])) = some (.agg [.fl (f false a c).1, .fl (f true b d).1], [⟨t, [.si .i64 n]⟩], some [], [(!(n == 0), false), ((!((f true b d).2 == 0)), false), ((!((f false a c).2 == 0)), false), (!(n == 0), false), (decide (n = 0), true), (rt ⟨c, d⟩, true), (decide (n = 0), true), (rt ⟨a, b⟩, true), (decide (n = 0), true)]) := by kernel_rfl
theorem radd_p3 (f : Bool → F → F → F × Int) (t : Nat) (n : Int) (a b c d : F) : takeR 1 ((run Tryz.prog EH (OQAdd f) 80).1 73 (.p 0 0 :: [.agg [.fl a, .fl b], .agg [.fl c, .fl d]]) [⟨t, [.si .i64 n]⟩] (some [true, true, true, true, true, false, false, true, true])) = some (.agg [.fl F.zero, .fl F.zero], [⟨t, [.si .i64 (f true b d).2]⟩], some [], [((!((f true b d).2 == 0)), true), ((!((f true b d).2 == 0)), true), ((!((f false a c).2 == 0)), false), (!(n == 0), false), (decide (n = 0), true), (rt ⟨c, d⟩, true), (decide (n = 0), true), (rt ⟨a, b⟩, true), (decide (n = 0), true)]) := by kernel_rfl
theorem radd_p4 (f : Bool → F → F → F × Int) (t : Nat) (n : Int) (a b c d : F) : takeR 1 ((run Tryz.prog EH (OQAdd f) 80).1 73 (.p 0 0 :: [.agg [.fl a, .fl b], .agg [.fl c, .fl d]]) [⟨t, [.si .i64 n]⟩] (some [true, true, true, true, true, false, true, true])) = some (.agg [.fl F.zero, .fl F.zero], [⟨t, [.si .i64 (f false a c).2]⟩], some [], [((!((f false a c).2 == 0)), true), ((!((f false a c).2 == 0)), true), (!(n == 0), false), (decide (n = 0), true), (rt ⟨c, d⟩, true), (decide (n = 0), true), (rt ⟨a, b⟩, true), (decide (n = 0), true)]) := by kernel_rfl
theorem radd_p5 (f : Bool → F → F → F × Int) (t : Nat) (n : Int) (a b c d : F) : takeR 1 ((run Tryz.prog EH (OQAdd f) 80).1 73 (.p 0 0 :: [.agg [.fl a, .fl b], .agg [.fl c, .fl d]]) [⟨t, [.si .i64 n]⟩] (some [false, true])) = some (.agg [.fl F.zero, .fl F.zero], [⟨t, [.si .i64 n]⟩], some [], [(!(n == 0), true), (decide (n = 0), false)]) := by kernel_rfl
theorem radd_I {f : Bool → F → F → F × Int} (hf : PlainOk Tryz.prog 135 (kTwo f)) : OfOk Tryz.prog 73 (kC (aII (cAdd f))) := by
  refine ofII fun a b c d t n => ?_
  cases hN : (!(n == 0))
  · have hn : n = 0 := by simpa using hN
    have hD : decide (n = 0) = true := decide_eq_true hn
    cases h1 : rt ⟨a, b⟩
    · skip
      exact calc_path goodH (oracleQAdd hf) (radd_p0 f t n a b c d) (obsB_yes h1 (obsB_yes hD obsB_nil)) (by simp only [cAdd, askI, endsI, I.zero, h1, hN, cond_true, cond_false, Bool.and_true, Bool.true_and, Bool.and_false, Bool.false_and]) rfl
    · skip
      cases h2 : rt ⟨c, d⟩
      · skip
        exact calc_path goodH (oracleQAdd hf) (radd_p1 f t n a b c d) (obsB_yes h2 (obsB_yes hD (obsB_yes h1 (obsB_yes hD obsB_nil)))) (by simp only [cAdd, askI, endsI, I.zero, h1, h2, hN, cond_true, cond_false, Bool.and_true, Bool.true_and, Bool.and_false, Bool.false_and]) rfl
      · skip
        cases h3 : (!((f false a c).2 == 0))
        · skip
          cases h4 : (!((f true b d).2 == 0))
          · skip
            exact calc_path goodH (oracleQAdd hf) (radd_p2 f t n a b c d) (obsB_yes hN (obsB_yes h4 (obsB_yes h3 (obsB_yes hN (obsB_yes hD (obsB_yes h2 (obsB_yes hD (obsB_yes h1 (obsB_yes hD obsB_nil))))))))) (by simp only [cAdd, askI, endsI, I.zero, h1, h2, h3, h4, hN, cond_true, cond_false, Bool.and_true, Bool.true_and, Bool.and_false, Bool.false_and]) rfl
          · skip
            exact calc_path goodH (oracleQAdd hf) (radd_p3 f t n a b c d) (obsB_yes h4 (obsB_yes h4 (obsB_yes h3 (obsB_yes hN (obsB_yes hD (obsB_yes h2 (obsB_yes hD (obsB_yes h1 (obsB_yes hD obsB_nil))))))))) (by simp only [cAdd, askI, endsI, I.zero, h1, h2, h3, h4, hN, cond_true, cond_false, Bool.and_true, Bool.true_and, Bool.and_false, Bool.false_and]) rfl
        · skip
          exact calc_path goodH (oracleQAdd hf) (radd_p4 f t n a b c d) (obsB_yes h3 (obsB_yes h3 (obsB_yes hN (obsB_yes hD (obsB_yes h2 (obsB_yes hD (obsB_yes h1 (obsB_yes hD obsB_nil)))))))) (by simp only [cAdd, askI, endsI, I.zero, h1, h2, h3, hN, cond_true, cond_false, Bool.and_true, Bool.true_and, Bool.and_false, Bool.false_and]) rfl
  · have hn : ¬ n = 0 := by simpa using hN
    have hD : decide (n = 0) = false := decide_eq_false hn
    exact calc_path goodH (oracleQAdd hf) (radd_p5 f t n a b c d) (obsB_yes hN (obsB_yes hD obsB_nil)) (by simp only [cAdd, askI, endsI, I.zero, hN, cond_true, cond_false, Bool.and_true, Bool.true_and, Bool.and_false, Bool.false_and]) rfl
def OQSub (f : Bool → F → F → F × Int) : OracleF := lookO [(28, plainO oRt), (124, plainO (kTwo f))]
theorem oracleQSub {f : Bool → F → F → F × Int} (hf : PlainOk Tryz.prog 124 (kTwo f)) : OracleOk Tryz.prog (OQSub f) := .cons rrtG.of (.cons hf.of (.nil _))
theorem rsub_p0 (f : Bool → F → F → F × Int) (t : Nat) (n : Int) (a b c d : F) : takeR 1 ((run Tryz.prog EH (OQSub f) 80).1 46 (.p 0 0 :: [.agg [.fl a, .fl b], .agg [.fl c, .fl d]]) [⟨t, [.si .i64 n]⟩] (some [true, false])) = some (.agg [.fl F.zero, .fl F.zero], [⟨t, [.i .i64 20]⟩], some [], [(rt ⟨a, b⟩, false), (decide (n = 0), true)]) := by kernel_rfl
theorem rsub_p1 (f : Bool → F → F → F × Int) (t : Nat) (n : Int) (a b c d : F) : takeR 1 ((run Tryz.prog EH (OQSub f) 80).1 46 (.p 0 0 :: [.agg [.fl a, .fl b], .agg [.fl c, .fl d]]) [⟨t, [.si .i64 n]⟩] (some [true, true, true, false])) = some (.agg [.fl F.zero, .fl F.zero], [⟨t, [.i .i64 20]⟩], some [], [(rt ⟨c, d⟩, false), (decide (n = 0), true), (rt ⟨a, b⟩, true), (decide (n = 0), true)]) := by kernel_rfl
theorem rsub_p2 (f : Bool → F → F → F × Int) (t : Nat) (n : Int) (a b c d : F) : takeR 1 ((run Tryz.prog EH (OQSub f) 80).1 46 (.p 0 0 :: [.agg [.fl a, .fl b], .agg [.fl c, .fl d]]) [⟨t, [.si .i64 n]⟩] (some [true, true, true, true, true, false, false, false, false])) = some (.agg [.fl (f false a d).1, .fl (f true b c).1], [⟨t, [.si .i64 n]⟩], some [], [(!(n == 0), false), ((!((f true b c).2 == 0)), false), ((!((f false a d).2 == 0)), false), (!(n == 0), false), (decide (n = 0), true), (rt ⟨c, d⟩, true), (decide (n = 0), true), (rt ⟨a, b⟩, true), (decide (n = 0), true)]) := by kernel_rfl
theorem rsub_p3 (f : Bool → F → F → F × Int) (t : Nat) (n : Int) (a b c d : F) : takeR 1 ((run Tryz.prog EH (OQSub f) 80).1 46 (.p 0 0 :: [.agg [.fl a, .fl b], .agg [.fl c, .fl d]]) [⟨t, [.si .i64 n]⟩] (some [true, true, true, true, true, false, false, true, true])) = some (.agg [.fl F.zero, .fl F.zero], [⟨t, [.si .i64 (f true b c).2]⟩], some [], [((!((f true b c).2 == 0)), true), ((!((f true b c).2 == 0)), true), ((!((f false a d).2 == 0)), false), (!(n == 0), false), (decide (n = 0), true), (rt ⟨c, d⟩, true), (decide (n = 0), true), (rt ⟨a, b⟩, true), (decide (n = 0), true)]) := by kernel_rfl
theorem rsub_p4 (f : Bool → F → F → F × Int) (t : Nat) (n : Int) (a b c d : F) : takeR 1 ((run Tryz.prog EH (OQSub f) 80).1 46 (.p 0 0 :: [.agg [.fl a, .fl b], .agg [.fl c, .fl d]]) [⟨t, [.si .i64 n]⟩] (some [true, true, true, true, true, false, true, true])) = some (.agg [.fl F.zero, .fl F.zero], [⟨t, [.si .i64 (f false a d).2]⟩], some [], [((!((f false a d).2 == 0)), true), ((!((f false a d).2 == 0)), true), (!(n == 0), false), (decide (n = 0), true), (rt ⟨c, d⟩, true), (decide (n = 0), true), (rt ⟨a, b⟩, true), (decide (n = 0), true)]) := by kernel_rfl
theorem rsub_p5 (f : Bool → F → F → F × Int) (t : Nat) (n : Int) (a b c d : F) : takeR 1 ((run Tryz.prog EH (OQSub f) 80).1 46 (.p 0 0 :: [.agg [.fl a, .fl b], .agg [.fl c, .fl d]]) [⟨t, [.si .i64 n]⟩] (some [false, true])) = some (.agg [.fl F.zero, .fl F.zero], [⟨t, [.si .i64 n]⟩], some [], [(!(n == 0), true), (decide (n = 0), false)]) := by kernel_rfl
theorem rsub_I {f : Bool → F → F → F × Int} (hf : PlainOk Tryz.prog 124 (kTwo f)) : OfOk Tryz.prog 46 (kC (aII (cSub f))) := by
  refine ofII fun a b c d t n => ?_
  cases hN : (!(n == 0))
  · have hn : n = 0 := by simpa using hN
    have hD : decide (n = 0) = true := decide_eq_true hn
    cases h1 : rt ⟨a, b⟩
    · skip
      exact calc_path goodH (oracleQSub hf) (rsub_p0 f t n a b c d) (obsB_yes h1 (obsB_yes hD obsB_nil)) (by simp only [cSub, askI, endsI, I.zero, h1, hN, cond_true, cond_false, Bool.and_true, Bool.true_and, Bool.and_false, Bool.false_and]) rfl
    · skip
      cases h2 : rt ⟨c, d⟩
      · skip
        exact calc_path goodH (oracleQSub hf) (rsub_p1 f t n a b c d) (obsB_yes h2 (obsB_yes hD (obsB_yes h1 (obsB_yes hD obsB_nil)))) (by simp only [cSub, askI, endsI, I.zero, h1, h2, hN, cond_true, cond_false, Bool.and_true, Bool.true_and, Bool.and_false, Bool.false_and]) rfl
      · skip
        cases h3 : (!((f false a d).2 == 0))
        · skip
          cases h4 : (!((f true b c).2 == 0))
          · skip
            exact calc_path goodH (oracleQSub hf) (rsub_p2 f t n a b c d) (obsB_yes hN (obsB_yes h4 (obsB_yes h3 (obsB_yes hN (obsB_yes hD (obsB_yes h2 (obsB_yes hD (obsB_yes h1 (obsB_yes hD obsB_nil))))))))) (by simp only [cSub, askI, endsI, I.zero, h1, h2, h3, h4, hN, cond_true, cond_false, Bool.and_true, Bool.true_and, Bool.and_false, Bool.false_and]) rfl
          · skip
            exact calc_path goodH (oracleQSub hf) (rsub_p3 f t n a b c d) (obsB_yes h4 (obsB_yes h4 (obsB_yes h3 (obsB_yes hN (obsB_yes hD (obsB_yes h2 (obsB_yes hD (obsB_yes h1 (obsB_yes hD obsB_nil))))))))) (by simp only [cSub, askI, endsI, I.zero, h1, h2, h3, h4, hN, cond_true, cond_false, Bool.and_true, Bool.true_and, Bool.and_false, Bool.false_and]) rfl
        · skip
          exact calc_path goodH (oracleQSub hf) (rsub_p4 f t n a b c d) (obsB_yes h3 (obsB_yes h3 (obsB_yes hN (obsB_yes hD (obsB_yes h2 (obsB_yes hD (obsB_yes h1 (obsB_yes hD obsB_nil)))))))) (by simp only [cSub, askI, endsI, I.zero, h1, h2, h3, hN, cond_true, cond_false, Bool.and_true, Bool.true_and, Bool.and_false, Bool.false_and]) rfl
  · have hn : ¬ n = 0 := by simpa using hN
    have hD : decide (n = 0) = false := decide_eq_false hn
    exact calc_path goodH (oracleQSub hf) (rsub_p5 f t n a b c d) (obsB_yes hN (obsB_yes hD obsB_nil)) (by simp only [cSub, askI, endsI, I.zero, hN, cond_true, cond_false, Bool.and_true, Bool.true_and, Bool.and_false, Bool.false_and]) rfl
def OQMul (f : Bool → F → F → F × Int) : OracleF := lookO [(28, plainO oRt), (30, plainO (oI2 hullI)), (134, plainO (kTwo f))]
theorem oracleQMul {f : Bool → F → F → F × Int} (hf : PlainOk Tryz.prog 134 (kTwo f)) : OracleOk Tryz.prog (OQMul f) := .cons rrtG.of (.cons rhullG.of (.cons hf.of (.nil _)))
theorem rmul_p0 (f : Bool → F → F → F × Int) (t : Nat) (n : Int) (a b c d : F) : takeR 1 ((run Tryz.prog EH (OQMul f) 80).1 49 (.p 0 0 :: [.agg [.fl a, .fl b], .agg [.fl c, .fl d]]) [⟨t, [.si .i64 n]⟩] (some [true, false])) = some (.agg [.fl F.zero, .fl F.zero], [⟨t, [.i .i64 20]⟩], some [], [(rt ⟨a, b⟩, false), (decide (n = 0), true)]) := by kernel_rfl
theorem rmul_p1 (f : Bool → F → F → F × Int) (t : Nat) (n : Int) (a b c d : F) : takeR 1 ((run Tryz.prog EH (OQMul f) 80).1 49 (.p 0 0 :: [.agg [.fl a, .fl b], .agg [.fl c, .fl d]]) [⟨t, [.si .i64 n]⟩] (some [true, true, true, false])) = some (.agg [.fl F.zero, .fl F.zero], [⟨t, [.i .i64 20]⟩], some [], [(rt ⟨c, d⟩, false), (decide (n = 0), true), (rt ⟨a, b⟩, true), (decide (n = 0), true)]) := by kernel_rfl
theorem rmul_p2 (f : Bool → F → F → F × Int) (t : Nat) (n : Int) (a b c d : F) : takeR 1 ((run Tryz.prog EH (OQMul f) 80).1 49 (.p 0 0 :: [.agg [.fl a, .fl b], .agg [.fl c, .fl d]]) [⟨t, [.si .i64 n]⟩] (some [true, true, true, true, true, false, false, false, false, false, false, false, false, false, false, false, false, false, false, false, false, false])) = some (.agg [.fl (mnF (mnF (mnF (mnF (f false a c).1 (f false a c).1) (f false a d).1) (f false b c).1) (f false b d).1), .fl (mxF (mxF (mxF (mxF (f true a c).1 (f true a c).1) (f true a d).1) (f true b c).1) (f true b d).1)], [⟨t, [.si .i64 n]⟩], some [], [(!(n == 0), false), (!(n == 0), false), ((!((f true b d).2 == 0)), false), ((!((f false b d).2 == 0)), false), (!(n == 0), false), (!(n == 0), false), ((!((f true b c).2 == 0)), false), ((!((f false b c).2 == 0)), false), (!(n == 0), false), (!(n == 0), false), ((!((f true a d).2 == 0)), false), ((!((f false a d).2 == 0)), false), (!(n == 0), false), (!(n == 0), false), ((!((f true a c).2 == 0)), false), ((!((f false a c).2 == 0)), false), (!(n == 0), false), (decide (n = 0), true), (rt ⟨c, d⟩, true), (decide (n = 0), true), (rt ⟨a, b⟩, true), (decide (n = 0), true)]) := by kernel_rfl
theorem rmul_p3 (f : Bool → F → F → F × Int) (t : Nat) (n : Int) (a b c d : F) : takeR 1 ((run Tryz.prog EH (OQMul f) 80).1 49 (.p 0 0 :: [.agg [.fl a, .fl b], .agg [.fl c, .fl d]]) [⟨t, [.si .i64 n]⟩] (some [true, true, true, true, true, false, false, false, false, false, false, false, false, false, false, false, false, false, false, true, true, true])) = some (.agg [.fl F.zero, .fl F.zero], [⟨t, [.si .i64 (f true b d).2]⟩], some [], [((!((f true b d).2 == 0)), true), ((!((f true b d).2 == 0)), true), ((!((f true b d).2 == 0)), true), ((!((f false b d).2 == 0)), false), (!(n == 0), false), (!(n == 0), false), ((!((f true b c).2 == 0)), false), ((!((f false b c).2 == 0)), false), (!(n == 0), false), (!(n == 0), false), ((!((f true a d).2 == 0)), false), ((!((f false a d).2 == 0)), false), (!(n == 0), false), (!(n == 0), false), ((!((f true a c).2 == 0)), false), ((!((f false a c).2 == 0)), false), (!(n == 0), false), (decide (n = 0), true), (rt ⟨c, d⟩, true), (decide (n = 0), true), (rt ⟨a, b⟩, true), (decide (n = 0), true)]) := by kernel_rfl
theorem rmul_p4 (f : Bool → F → F → F × Int) (t : Nat) (n : Int) (a b c d : F) : takeR 1 ((run Tryz.prog EH (OQMul f) 80).1 49 (.p 0 0 :: [.agg [.fl a, .fl b], .agg [.fl c, .fl d]]) [⟨t, [.si .i64 n]⟩] (some [true, true, true, true, true, false, false, false, false, false, false, false, false, false, false, false, false, false, true, true, true])) = some (.agg [.fl F.zero, .fl F.zero], [⟨t, [.si .i64 (f false b d).2]⟩], some [], [((!((f false b d).2 == 0)), true), ((!((f false b d).2 == 0)), true), ((!((f false b d).2 == 0)), true), (!(n == 0), false), (!(n == 0), false), ((!((f true b c).2 == 0)), false), ((!((f false b c).2 == 0)), false), (!(n == 0), false), (!(n == 0), false), ((!((f true a d).2 == 0)), false), ((!((f false a d).2 == 0)), false), (!(n == 0), false), (!(n == 0), false), ((!((f true a c).2 == 0)), false), ((!((f false a c).2 == 0)), false), (!(n == 0), false), (decide (n = 0), true), (rt ⟨c, d⟩, true), (decide (n = 0), true), (rt ⟨a, b⟩, true), (decide (n = 0), true)]) := by kernel_rfl
theorem rmul_p5 (f : Bool → F → F → F × Int) (t : Nat) (n : Int) (a b c d : F) : takeR 1 ((run Tryz.prog EH (OQMul f) 80).1 49 (.p 0 0 :: [.agg [.fl a, .fl b], .agg [.fl c, .fl d]]) [⟨t, [.si .i64 n]⟩] (some [true, true, true, true, true, false, false, false, false, false, false, false, false, false, false, true, true, true])) = some (.agg [.fl F.zero, .fl F.zero], [⟨t, [.si .i64 (f true b c).2]⟩], some [], [((!((f true b c).2 == 0)), true), ((!((f true b c).2 == 0)), true), ((!((f true b c).2 == 0)), true), ((!((f false b c).2 == 0)), false), (!(n == 0), false), (!(n == 0), false), ((!((f true a d).2 == 0)), false), ((!((f false a d).2 == 0)), false), (!(n == 0), false), (!(n == 0), false), ((!((f true a c).2 == 0)), false), ((!((f false a c).2 == 0)), false), (!(n == 0), false), (decide (n = 0), true), (rt ⟨c, d⟩, true), (decide (n = 0), true), (rt ⟨a, b⟩, true), (decide (n = 0), true)]) := by kernel_rfl
theorem rmul_p6 (f : Bool → F → F → F × Int) (t : Nat) (n : Int) (a b c d : F) : takeR 1 ((run Tryz.prog EH (OQMul f) 80).1 49 (.p 0 0 :: [.agg [.fl a, .fl b], .agg [.fl c, .fl d]]) [⟨t, [.si .i64 n]⟩] (some [true, true, true, true, true, false, false, false, false, false, false, false, false, false, true, true, true])) = some (.agg [.fl F.zero, .fl F.zero], [⟨t, [.si .i64 (f false b c).2]⟩], some [], [((!((f false b c).2 == 0)), true), ((!((f false b c).2 == 0)), true), ((!((f false b c).2 == 0)), true), (!(n == 0), false), (!(n == 0), false), ((!((f true a d).2 == 0)), false), ((!((f false a d).2 == 0)), false), (!(n == 0), false), (!(n == 0), false), ((!((f true a c).2 == 0)), false), ((!((f false a c).2 == 0)), false), (!(n == 0), false), (decide (n = 0), true), (rt ⟨c, d⟩, true), (decide (n = 0), true), (rt ⟨a, b⟩, true), (decide (n = 0), true)]) := by kernel_rfl
theorem rmul_p7 (f : Bool → F → F → F × Int) (t : Nat) (n : Int) (a b c d : F) : takeR 1 ((run Tryz.prog EH (OQMul f) 80).1 49 (.p 0 0 :: [.agg [.fl a, .fl b], .agg [.fl c, .fl d]]) [⟨t, [.si .i64 n]⟩] (some [true, true, true, true, true, false, false, false, false, false, false, true, true, true])) = some (.agg [.fl F.zero, .fl F.zero], [⟨t, [.si .i64 (f true a d).2]⟩], some [], [((!((f true a d).2 == 0)), true), ((!((f true a d).2 == 0)), true), ((!((f true a d).2 == 0)), true), ((!((f false a d).2 == 0)), false), (!(n == 0), false), (!(n == 0), false), ((!((f true a c).2 == 0)), false), ((!((f false a c).2 == 0)), false), (!(n == 0), false), (decide (n = 0), true), (rt ⟨c, d⟩, true), (decide (n = 0), true), (rt ⟨a, b⟩, true), (decide (n = 0), true)]) := by kernel_rfl
theorem rmul_p8 (f : Bool → F → F → F × Int) (t : Nat) (n : Int) (a b c d : F) : takeR 1 ((run Tryz.prog EH (OQMul f) 80).1 49 (.p 0 0 :: [.agg [.fl a, .fl b], .agg [.fl c, .fl d]]) [⟨t, [.si .i64 n]⟩] (some [true, true, true, true, true, false, false, false, false, false, true, true, true])) = some (.agg [.fl F.zero, .fl F.zero], [⟨t, [.si .i64 (f false a d).2]⟩], some [], [((!((f false a d).2 == 0)), true), ((!((f false a d).2 == 0)), true), ((!((f false a d).2 == 0)), true), (!(n == 0), false), (!(n == 0), false), ((!((f true a c).2 == 0)), false), ((!((f false a c).2 == 0)), false), (!(n == 0), false), (decide (n = 0), true), (rt ⟨c, d⟩, true), (decide (n = 0), true), (rt ⟨a, b⟩, true), (decide (n = 0), true)]) := by kernel_rfl
theorem rmul_p9 (f : Bool → F → F → F × Int) (t : Nat) (n : Int) (a b c d : F) : takeR 1 ((run Tryz.prog EH (OQMul f) 80).1 49 (.p 0 0 :: [.agg [.fl a, .fl b], .agg [.fl c, .fl d]]) [⟨t, [.si .i64 n]⟩] (some [true, true, true, true, true, false, false, true, true, true])) = some (.agg [.fl F.zero, .fl F.zero], [⟨t, [.si .i64 (f true a c).2]⟩], some [], [((!((f true a c).2 == 0)), true), ((!((f true a c).2 == 0)), true), ((!((f true a c).2 == 0)), true), ((!((f false a c).2 == 0)), false), (!(n == 0), false), (decide (n = 0), true), (rt ⟨c, d⟩, true), (decide (n = 0), true), (rt ⟨a, b⟩, true), (decide (n = 0), true)]) := by kernel_rfl
theorem rmul_p10 (f : Bool → F → F → F × Int) (t : Nat) (n : Int) (a b c d : F) : takeR 1 ((run Tryz.prog EH (OQMul f) 80).1 49 (.p 0 0 :: [.agg [.fl a, .fl b], .agg [.fl c, .fl d]]) [⟨t, [.si .i64 n]⟩] (some [true, true, true, true, true, false, true, true, true])) = some (.agg [.fl F.zero, .fl F.zero], [⟨t, [.si .i64 (f false a c).2]⟩], some [], [((!((f false a c).2 == 0)), true), ((!((f false a c).2 == 0)), true), ((!((f false a c).2 == 0)), true), (!(n == 0), false), (decide (n = 0), true), (rt ⟨c, d⟩, true), (decide (n = 0), true), (rt ⟨a, b⟩, true), (decide (n = 0), true)]) := by kernel_rfl
theorem rmul_p11 (f : Bool → F → F → F × Int) (t : Nat) (n : Int) (a b c d : F) : takeR 1 ((run Tryz.prog EH (OQMul f) 80).1 49 (.p 0 0 :: [.agg [.fl a, .fl b], .agg [.fl c, .fl d]]) [⟨t, [.si .i64 n]⟩] (some [false, true])) = some (.agg [.fl F.zero, .fl F.zero], [⟨t, [.si .i64 n]⟩], some [], [(!(n == 0), true), (decide (n = 0), false)]) := by kernel_rfl
theorem rmul_I {f : Bool → F → F → F × Int} (hf : PlainOk Tryz.prog 134 (kTwo f)) : OfOk Tryz.prog 49 (kC (aII (cMul f))) := by
  refine ofII fun a b c d t n => ?_
  cases hN : (!(n == 0))
  · have hn : n = 0 := by simpa using hN
    have hD : decide (n = 0) = true := decide_eq_true hn
    cases h1 : rt ⟨a, b⟩
    · skip
      exact calc_path goodH (oracleQMul hf) (rmul_p0 f t n a b c d) (obsB_yes h1 (obsB_yes hD obsB_nil)) (by simp only [cMul, askI, allI, thenI, oneI, endsI, hullI, show (!((0 : Int) == 0)) = false from rfl, show (!((11 : Int) == 0)) = true from rfl, I.zero, h1, hN, cond_true, cond_false, Bool.and_true, Bool.true_and, Bool.and_false, Bool.false_and]) rfl
    · skip
      cases h2 : rt ⟨c, d⟩
      · skip
        exact calc_path goodH (oracleQMul hf) (rmul_p1 f t n a b c d) (obsB_yes h2 (obsB_yes hD (obsB_yes h1 (obsB_yes hD obsB_nil)))) (by simp only [cMul, askI, allI, thenI, oneI, endsI, hullI, show (!((0 : Int) == 0)) = false from rfl, show (!((11 : Int) == 0)) = true from rfl, I.zero, h1, h2, hN, cond_true, cond_false, Bool.and_true, Bool.true_and, Bool.and_false, Bool.false_and]) rfl
      · skip
        cases h10 : (!((f false a c).2 == 0))
        · skip
          cases h11 : (!((f true a c).2 == 0))
          · skip
            cases h12 : (!((f false a d).2 == 0))
            · skip
              cases h13 : (!((f true a d).2 == 0))
              · skip
                cases h14 : (!((f false b c).2 == 0))
                · skip
                  cases h15 : (!((f true b c).2 == 0))
                  · skip
                    cases h16 : (!((f false b d).2 == 0))
                    · skip
                      cases h17 : (!((f true b d).2 == 0))
                      · skip
                        exact calc_path goodH (oracleQMul hf) (rmul_p2 f t n a b c d) (obsB_yes hN (obsB_yes hN (obsB_yes h17 (obsB_yes h16 (obsB_yes hN (obsB_yes hN (obsB_yes h15 (obsB_yes h14 (obsB_yes hN (obsB_yes hN (obsB_yes h13 (obsB_yes h12 (obsB_yes hN (obsB_yes hN (obsB_yes h11 (obsB_yes h10 (obsB_yes hN (obsB_yes hD (obsB_yes h2 (obsB_yes hD (obsB_yes h1 (obsB_yes hD obsB_nil)))))))))))))))))))))) (by simp only [cMul, askI, allI, thenI, oneI, endsI, hullI, show (!((0 : Int) == 0)) = false from rfl, show (!((11 : Int) == 0)) = true from rfl, I.zero, h1, h2, hN, h10, h11, h12, h13, h14, h15, h16, h17, cond_true, cond_false, Bool.and_true, Bool.true_and, Bool.and_false, Bool.false_and]) rfl
                      · skip
                        exact calc_path goodH (oracleQMul hf) (rmul_p3 f t n a b c d) (obsB_yes h17 (obsB_yes h17 (obsB_yes h17 (obsB_yes h16 (obsB_yes hN (obsB_yes hN (obsB_yes h15 (obsB_yes h14 (obsB_yes hN (obsB_yes hN (obsB_yes h13 (obsB_yes h12 (obsB_yes hN (obsB_yes hN (obsB_yes h11 (obsB_yes h10 (obsB_yes hN (obsB_yes hD (obsB_yes h2 (obsB_yes hD (obsB_yes h1 (obsB_yes hD obsB_nil)))))))))))))))))))))) (by simp only [cMul, askI, allI, thenI, oneI, endsI, hullI, show (!((0 : Int) == 0)) = false from rfl, show (!((11 : Int) == 0)) = true from rfl, I.zero, h1, h2, hN, h10, h11, h12, h13, h14, h15, h16, h17, cond_true, cond_false, Bool.and_true, Bool.true_and, Bool.and_false, Bool.false_and]) rfl
                    · skip
                      exact calc_path goodH (oracleQMul hf) (rmul_p4 f t n a b c d) (obsB_yes h16 (obsB_yes h16 (obsB_yes h16 (obsB_yes hN (obsB_yes hN (obsB_yes h15 (obsB_yes h14 (obsB_yes hN (obsB_yes hN (obsB_yes h13 (obsB_yes h12 (obsB_yes hN (obsB_yes hN (obsB_yes h11 (obsB_yes h10 (obsB_yes hN (obsB_yes hD (obsB_yes h2 (obsB_yes hD (obsB_yes h1 (obsB_yes hD obsB_nil))))))))))))))))))))) (by simp only [cMul, askI, allI, thenI, oneI, endsI, hullI, show (!((0 : Int) == 0)) = false from rfl, show (!((11 : Int) == 0)) = true from rfl, I.zero, h1, h2, hN, h10, h11, h12, h13, h14, h15, h16, cond_true, cond_false, Bool.and_true, Bool.true_and, Bool.and_false, Bool.false_and]) rfl
                  · skip
                    exact calc_path goodH (oracleQMul hf) (rmul_p5 f t n a b c d) (obsB_yes h15 (obsB_yes h15 (obsB_yes h15 (obsB_yes h14 (obsB_yes hN (obsB_yes hN (obsB_yes h13 (obsB_yes h12 (obsB_yes hN (obsB_yes hN (obsB_yes h11 (obsB_yes h10 (obsB_yes hN (obsB_yes hD (obsB_yes h2 (obsB_yes hD (obsB_yes h1 (obsB_yes hD obsB_nil)))))))))))))))))) (by simp only [cMul, askI, allI, thenI, oneI, endsI, hullI, show (!((0 : Int) == 0)) = false from rfl, show (!((11 : Int) == 0)) = true from rfl, I.zero, h1, h2, hN, h10, h11, h12, h13, h14, h15, cond_true, cond_false, Bool.and_true, Bool.true_and, Bool.and_false, Bool.false_and]) rfl
                · skip
                  exact calc_path goodH (oracleQMul hf) (rmul_p6 f t n a b c d) (obsB_yes h14 (obsB_yes h14 (obsB_yes h14 (obsB_yes hN (obsB_yes hN (obsB_yes h13 (obsB_yes h12 (obsB_yes hN (obsB_yes hN (obsB_yes h11 (obsB_yes h10 (obsB_yes hN (obsB_yes hD (obsB_yes h2 (obsB_yes hD (obsB_yes h1 (obsB_yes hD obsB_nil))))))))))))))))) (by simp only [cMul, askI, allI, thenI, oneI, endsI, hullI, show (!((0 : Int) == 0)) = false from rfl, show (!((11 : Int) == 0)) = true from rfl, I.zero, h1, h2, hN, h10, h11, h12, h13, h14, cond_true, cond_false, Bool.and_true, Bool.true_and, Bool.and_false, Bool.false_and]) rfl
              · skip
                exact calc_path goodH (oracleQMul hf) (rmul_p7 f t n a b c d) (obsB_yes h13 (obsB_yes h13 (obsB_yes h13 (obsB_yes h12 (obsB_yes hN (obsB_yes hN (obsB_yes h11 (obsB_yes h10 (obsB_yes hN (obsB_yes hD (obsB_yes h2 (obsB_yes hD (obsB_yes h1 (obsB_yes hD obsB_nil)))))))))))))) (by simp only [cMul, askI, allI, thenI, oneI, endsI, hullI, show (!((0 : Int) == 0)) = false from rfl, show (!((11 : Int) == 0)) = true from rfl, I.zero, h1, h2, hN, h10, h11, h12, h13, cond_true, cond_false, Bool.and_true, Bool.true_and, Bool.and_false, Bool.false_and]) rfl
            · skip
              exact calc_path goodH (oracleQMul hf) (rmul_p8 f t n a b c d) (obsB_yes h12 (obsB_yes h12 (obsB_yes h12 (obsB_yes hN (obsB_yes hN (obsB_yes h11 (obsB_yes h10 (obsB_yes hN (obsB_yes hD (obsB_yes h2 (obsB_yes hD (obsB_yes h1 (obsB_yes hD obsB_nil))))))))))))) (by simp only [cMul, askI, allI, thenI, oneI, endsI, hullI, show (!((0 : Int) == 0)) = false from rfl, show (!((11 : Int) == 0)) = true from rfl, I.zero, h1, h2, hN, h10, h11, h12, cond_true, cond_false, Bool.and_true, Bool.true_and, Bool.and_false, Bool.false_and]) rfl
          · skip
            exact calc_path goodH (oracleQMul hf) (rmul_p9 f t n a b c d) (obsB_yes h11 (obsB_yes h11 (obsB_yes h11 (obsB_yes h10 (obsB_yes hN (obsB_yes hD (obsB_yes h2 (obsB_yes hD (obsB_yes h1 (obsB_yes hD obsB_nil)))))))))) (by simp only [cMul, askI, allI, thenI, oneI, endsI, hullI, show (!((0 : Int) == 0)) = false from rfl, show (!((11 : Int) == 0)) = true from rfl, I.zero, h1, h2, hN, h10, h11, cond_true, cond_false, Bool.and_true, Bool.true_and, Bool.and_false, Bool.false_and]) rfl
        · skip
          exact calc_path goodH (oracleQMul hf) (rmul_p10 f t n a b c d) (obsB_yes h10 (obsB_yes h10 (obsB_yes h10 (obsB_yes hN (obsB_yes hD (obsB_yes h2 (obsB_yes hD (obsB_yes h1 (obsB_yes hD obsB_nil))))))))) (by simp only [cMul, askI, allI, thenI, oneI, endsI, hullI, show (!((0 : Int) == 0)) = false from rfl, show (!((11 : Int) == 0)) = true from rfl, I.zero, h1, h2, hN, h10, cond_true, cond_false, Bool.and_true, Bool.true_and, Bool.and_false, Bool.false_and]) rfl
  · have hn : ¬ n = 0 := by simpa using hN
    have hD : decide (n = 0) = false := decide_eq_false hn
    exact calc_path goodH (oracleQMul hf) (rmul_p11 f t n a b c d) (obsB_yes hN (obsB_yes hD obsB_nil)) (by simp only [cMul, askI, allI, thenI, oneI, endsI, hullI, show (!((0 : Int) == 0)) = false from rfl, show (!((11 : Int) == 0)) = true from rfl, I.zero, hN, cond_true, cond_false, Bool.and_true, Bool.true_and, Bool.and_false, Bool.false_and]) rfl
def OQDiv (f : Bool → F → F → F × Int) : OracleF := lookO [(28, plainO oRt), (30, plainO (oI2 hullI)), (190, plainO (kTwo f))]
theorem oracleQDiv {f : Bool → F → F → F × Int} (hf : PlainOk Tryz.prog 190 (kTwo f)) : OracleOk Tryz.prog (OQDiv f) := .cons rrtG.of (.cons rhullG.of (.cons hf.of (.nil _)))
theorem rdiv_p0 (f : Bool → F → F → F × Int) (t : Nat) (n : Int) (a b c d : F) : takeR 1 ((run Tryz.prog EH (OQDiv f) 80).1 75 (.p 0 0 :: [.agg [.fl a, .fl b], .agg [.fl c, .fl d]]) [⟨t, [.si .i64 n]⟩] (some [true, false])) = some (.agg [.fl F.zero, .fl F.zero], [⟨t, [.i .i64 20]⟩], some [], [(rt ⟨a, b⟩, false), (decide (n = 0), true)]) := by kernel_rfl
theorem rdiv_p1 (f : Bool → F → F → F × Int) (t : Nat) (n : Int) (a b c d : F) : takeR 1 ((run Tryz.prog EH (OQDiv f) 80).1 75 (.p 0 0 :: [.agg [.fl a, .fl b], .agg [.fl c, .fl d]]) [⟨t, [.si .i64 n]⟩] (some [true, true, true, false])) = some (.agg [.fl F.zero, .fl F.zero], [⟨t, [.i .i64 20]⟩], some [], [(rt ⟨c, d⟩, false), (decide (n = 0), true), (rt ⟨a, b⟩, true), (decide (n = 0), true)]) := by kernel_rfl
theorem rdiv_p2 (f : Bool → F → F → F × Int) (t : Nat) (n : Int) (a b c d : F) : takeR 1 ((run Tryz.prog EH (OQDiv f) 80).1 75 (.p 0 0 :: [.agg [.fl a, .fl b], .agg [.fl c, .fl d]]) [⟨t, [.si .i64 n]⟩] (some [true, true, true, true, true, false, false, false, false, false, false, false, false, false, false, false, false, false, false, false, false, false, false])) = some (.agg [.fl (mnF (mnF (mnF (mnF (f false a c).1 (f false a c).1) (f false a d).1) (f false b c).1) (f false b d).1), .fl (mxF (mxF (mxF (mxF (f true a c).1 (f true a c).1) (f true a d).1) (f true b c).1) (f true b d).1)], [⟨t, [.si .i64 n]⟩], some [], [(!(n == 0), false), (!(n == 0), false), ((!((f true b d).2 == 0)), false), ((!((f false b d).2 == 0)), false), (!(n == 0), false), (!(n == 0), false), ((!((f true b c).2 == 0)), false), ((!((f false b c).2 == 0)), false), (!(n == 0), false), (!(n == 0), false), ((!((f true a d).2 == 0)), false), ((!((f false a d).2 == 0)), false), (!(n == 0), false), (!(n == 0), false), ((!((f true a c).2 == 0)), false), ((!((f false a c).2 == 0)), false), (decide (c.k ≤ (toF 0).k), false), (!(n == 0), false), (decide (n = 0), true), (rt ⟨c, d⟩, true), (decide (n = 0), true), (rt ⟨a, b⟩, true), (decide (n = 0), true)]) := by kernel_rfl
theorem rdiv_p3 (f : Bool → F → F → F × Int) (t : Nat) (n : Int) (a b c d : F) : takeR 1 ((run Tryz.prog EH (OQDiv f) 80).1 75 (.p 0 0 :: [.agg [.fl a, .fl b], .agg [.fl c, .fl d]]) [⟨t, [.si .i64 n]⟩] (some [true, true, true, true, true, false, false, false, false, false, false, false, false, false, false, false, false, false, false, false, true, true, true])) = some (.agg [.fl F.zero, .fl F.zero], [⟨t, [.si .i64 (f true b d).2]⟩], some [], [((!((f true b d).2 == 0)), true), ((!((f true b d).2 == 0)), true), ((!((f true b d).2 == 0)), true), ((!((f false b d).2 == 0)), false), (!(n == 0), false), (!(n == 0), false), ((!((f true b c).2 == 0)), false), ((!((f false b c).2 == 0)), false), (!(n == 0), false), (!(n == 0), false), ((!((f true a d).2 == 0)), false), ((!((f false a d).2 == 0)), false), (!(n == 0), false), (!(n == 0), false), ((!((f true a c).2 == 0)), false), ((!((f false a c).2 == 0)), false), (decide (c.k ≤ (toF 0).k), false), (!(n == 0), false), (decide (n = 0), true), (rt ⟨c, d⟩, true), (decide (n = 0), true), (rt ⟨a, b⟩, true), (decide (n = 0), true)]) := by kernel_rfl
theorem rdiv_p4 (f : Bool → F → F → F × Int) (t : Nat) (n : Int) (a b c d : F) : takeR 1 ((run Tryz.prog EH (OQDiv f) 80).1 75 (.p 0 0 :: [.agg [.fl a, .fl b], .agg [.fl c, .fl d]]) [⟨t, [.si .i64 n]⟩] (some [true, true, true, true, true, false, false, false, false, false, false, false, false, false, false, false, false, false, false, true, true, true])) = some (.agg [.fl F.zero, .fl F.zero], [⟨t, [.si .i64 (f false b d).2]⟩], some [], [((!((f false b d).2 == 0)), true), ((!((f false b d).2 == 0)), true), ((!((f false b d).2 == 0)), true), (!(n == 0), false), (!(n == 0), false), ((!((f true b c).2 == 0)), false), ((!((f false b c).2 == 0)), false), (!(n == 0), false), (!(n == 0), false), ((!((f true a d).2 == 0)), false), ((!((f false a d).2 == 0)), false), (!(n == 0), false), (!(n == 0), false), ((!((f true a c).2 == 0)), false), ((!((f false a c).2 == 0)), false), (decide (c.k ≤ (toF 0).k), false), (!(n == 0), false), (decide (n = 0), true), (rt ⟨c, d⟩, true), (decide (n = 0), true), (rt ⟨a, b⟩, true), (decide (n = 0), true)]) := by kernel_rfl
theorem rdiv_p5 (f : Bool → F → F → F × Int) (t : Nat) (n : Int) (a b c d : F) : takeR 1 ((run Tryz.prog EH (OQDiv f) 80).1 75 (.p 0 0 :: [.agg [.fl a, .fl b], .agg [.fl c, .fl d]]) [⟨t, [.si .i64 n]⟩] (some [true, true, true, true, true, false, false, false, false, false, false, false, false, false, false, false, true, true, true])) = some (.agg [.fl F.zero, .fl F.zero], [⟨t, [.si .i64 (f true b c).2]⟩], some [], [((!((f true b c).2 == 0)), true), ((!((f true b c).2 == 0)), true), ((!((f true b c).2 == 0)), true), ((!((f false b c).2 == 0)), false), (!(n == 0), false), (!(n == 0), false), ((!((f true a d).2 == 0)), false), ((!((f false a d).2 == 0)), false), (!(n == 0), false), (!(n == 0), false), ((!((f true a c).2 == 0)), false), ((!((f false a c).2 == 0)), false), (decide (c.k ≤ (toF 0).k), false), (!(n == 0), false), (decide (n = 0), true), (rt ⟨c, d⟩, true), (decide (n = 0), true), (rt ⟨a, b⟩, true), (decide (n = 0), true)]) := by kernel_rfl
theorem rdiv_p6 (f : Bool → F → F → F × Int) (t : Nat) (n : Int) (a b c d : F) : takeR 1 ((run Tryz.prog EH (OQDiv f) 80).1 75 (.p 0 0 :: [.agg [.fl a, .fl b], .agg [.fl c, .fl d]]) [⟨t, [.si .i64 n]⟩] (some [true, true, true, true, true, false, false, false, false, false, false, false, false, false, false, true, true, true])) = some (.agg [.fl F.zero, .fl F.zero], [⟨t, [.si .i64 (f false b c).2]⟩], some [], [((!((f false b c).2 == 0)), true), ((!((f false b c).2 == 0)), true), ((!((f false b c).2 == 0)), true), (!(n == 0), false), (!(n == 0), false), ((!((f true a d).2 == 0)), false), ((!((f false a d).2 == 0)), false), (!(n == 0), false), (!(n == 0), false), ((!((f true a c).2 == 0)), false), ((!((f false a c).2 == 0)), false), (decide (c.k ≤ (toF 0).k), false), (!(n == 0), false), (decide (n = 0), true), (rt ⟨c, d⟩, true), (decide (n = 0), true), (rt ⟨a, b⟩, true), (decide (n = 0), true)]) := by kernel_rfl
theorem rdiv_p7 (f : Bool → F → F → F × Int) (t : Nat) (n : Int) (a b c d : F) : takeR 1 ((run Tryz.prog EH (OQDiv f) 80).1 75 (.p 0 0 :: [.agg [.fl a, .fl b], .agg [.fl c, .fl d]]) [⟨t, [.si .i64 n]⟩] (some [true, true, true, true, true, false, false, false, false, false, false, false, true, true, true])) = some (.agg [.fl F.zero, .fl F.zero], [⟨t, [.si .i64 (f true a d).2]⟩], some [], [((!((f true a d).2 == 0)), true), ((!((f true a d).2 == 0)), true), ((!((f true a d).2 == 0)), true), ((!((f false a d).2 == 0)), false), (!(n == 0), false), (!(n == 0), false), ((!((f true a c).2 == 0)), false), ((!((f false a c).2 == 0)), false), (decide (c.k ≤ (toF 0).k), false), (!(n == 0), false), (decide (n = 0), true), (rt ⟨c, d⟩, true), (decide (n = 0), true), (rt ⟨a, b⟩, true), (decide (n = 0), true)]) := by kernel_rfl
theorem rdiv_p8 (f : Bool → F → F → F × Int) (t : Nat) (n : Int) (a b c d : F) : takeR 1 ((run Tryz.prog EH (OQDiv f) 80).1 75 (.p 0 0 :: [.agg [.fl a, .fl b], .agg [.fl c, .fl d]]) [⟨t, [.si .i64 n]⟩] (some [true, true, true, true, true, false, false, false, false, false, false, true, true, true])) = some (.agg [.fl F.zero, .fl F.zero], [⟨t, [.si .i64 (f false a d).2]⟩], some [], [((!((f false a d).2 == 0)), true), ((!((f false a d).2 == 0)), true), ((!((f false a d).2 == 0)), true), (!(n == 0), false), (!(n == 0), false), ((!((f true a c).2 == 0)), false), ((!((f false a c).2 == 0)), false), (decide (c.k ≤ (toF 0).k), false), (!(n == 0), false), (decide (n = 0), true), (rt ⟨c, d⟩, true), (decide (n = 0), true), (rt ⟨a, b⟩, true), (decide (n = 0), true)]) := by kernel_rfl
theorem rdiv_p9 (f : Bool → F → F → F × Int) (t : Nat) (n : Int) (a b c d : F) : takeR 1 ((run Tryz.prog EH (OQDiv f) 80).1 75 (.p 0 0 :: [.agg [.fl a, .fl b], .agg [.fl c, .fl d]]) [⟨t, [.si .i64 n]⟩] (some [true, true, true, true, true, false, false, false, true, true, true])) = some (.agg [.fl F.zero, .fl F.zero], [⟨t, [.si .i64 (f true a c).2]⟩], some [], [((!((f true a c).2 == 0)), true), ((!((f true a c).2 == 0)), true), ((!((f true a c).2 == 0)), true), ((!((f false a c).2 == 0)), false), (decide (c.k ≤ (toF 0).k), false), (!(n == 0), false), (decide (n = 0), true), (rt ⟨c, d⟩, true), (decide (n = 0), true), (rt ⟨a, b⟩, true), (decide (n = 0), true)]) := by kernel_rfl
theorem rdiv_p10 (f : Bool → F → F → F × Int) (t : Nat) (n : Int) (a b c d : F) : takeR 1 ((run Tryz.prog EH (OQDiv f) 80).1 75 (.p 0 0 :: [.agg [.fl a, .fl b], .agg [.fl c, .fl d]]) [⟨t, [.si .i64 n]⟩] (some [true, true, true, true, true, false, false, true, true, true])) = some (.agg [.fl F.zero, .fl F.zero], [⟨t, [.si .i64 (f false a c).2]⟩], some [], [((!((f false a c).2 == 0)), true), ((!((f false a c).2 == 0)), true), ((!((f false a c).2 == 0)), true), (decide (c.k ≤ (toF 0).k), false), (!(n == 0), false), (decide (n = 0), true), (rt ⟨c, d⟩, true), (decide (n = 0), true), (rt ⟨a, b⟩, true), (decide (n = 0), true)]) := by kernel_rfl
theorem rdiv_p11 (f : Bool → F → F → F × Int) (t : Nat) (n : Int) (a b c d : F) : takeR 1 ((run Tryz.prog EH (OQDiv f) 80).1 75 (.p 0 0 :: [.agg [.fl a, .fl b], .agg [.fl c, .fl d]]) [⟨t, [.si .i64 n]⟩] (some [true, true, true, true, true, false, true, false, false, false, false, false, false, false, false, false, false, false, false, false, false, false, false, false])) = some (.agg [.fl (mnF (mnF (mnF (mnF (f false a c).1 (f false a c).1) (f false a d).1) (f false b c).1) (f false b d).1), .fl (mxF (mxF (mxF (mxF (f true a c).1 (f true a c).1) (f true a d).1) (f true b c).1) (f true b d).1)], [⟨t, [.si .i64 n]⟩], some [], [(!(n == 0), false), (!(n == 0), false), ((!((f true b d).2 == 0)), false), ((!((f false b d).2 == 0)), false), (!(n == 0), false), (!(n == 0), false), ((!((f true b c).2 == 0)), false), ((!((f false b c).2 == 0)), false), (!(n == 0), false), (!(n == 0), false), ((!((f true a d).2 == 0)), false), ((!((f false a d).2 == 0)), false), (!(n == 0), false), (!(n == 0), false), ((!((f true a c).2 == 0)), false), ((!((f false a c).2 == 0)), false), (decide ((toF 0).k ≤ d.k), false), (decide (c.k ≤ (toF 0).k), true), (!(n == 0), false), (decide (n = 0), true), (rt ⟨c, d⟩, true), (decide (n = 0), true), (rt ⟨a, b⟩, true), (decide (n = 0), true)]) := by kernel_rfl
theorem rdiv_p12 (f : Bool → F → F → F × Int) (t : Nat) (n : Int) (a b c d : F) : takeR 1 ((run Tryz.prog EH (OQDiv f) 80).1 75 (.p 0 0 :: [.agg [.fl a, .fl b], .agg [.fl c, .fl d]]) [⟨t, [.si .i64 n]⟩] (some [true, true, true, true, true, false, true, false, false, false, false, false, false, false, false, false, false, false, false, false, false, true, true, true])) = some (.agg [.fl F.zero, .fl F.zero], [⟨t, [.si .i64 (f true b d).2]⟩], some [], [((!((f true b d).2 == 0)), true), ((!((f true b d).2 == 0)), true), ((!((f true b d).2 == 0)), true), ((!((f false b d).2 == 0)), false), (!(n == 0), false), (!(n == 0), false), ((!((f true b c).2 == 0)), false), ((!((f false b c).2 == 0)), false), (!(n == 0), false), (!(n == 0), false), ((!((f true a d).2 == 0)), false), ((!((f false a d).2 == 0)), false), (!(n == 0), false), (!(n == 0), false), ((!((f true a c).2 == 0)), false), ((!((f false a c).2 == 0)), false), (decide ((toF 0).k ≤ d.k), false), (decide (c.k ≤ (toF 0).k), true), (!(n == 0), false), (decide (n = 0), true), (rt ⟨c, d⟩, true), (decide (n = 0), true), (rt ⟨a, b⟩, true), (decide (n = 0), true)]) := by kernel_rfl
theorem rdiv_p13 (f : Bool → F → F → F × Int) (t : Nat) (n : Int) (a b c d : F) : takeR 1 ((run Tryz.prog EH (OQDiv f) 80).1 75 (.p 0 0 :: [.agg [.fl a, .fl b], .agg [.fl c, .fl d]]) [⟨t, [.si .i64 n]⟩] (some [true, true, true, true, true, false, true, false, false, false, false, false, false, false, false, false, false, false, false, false, true, true, true])) = some (.agg [.fl F.zero, .fl F.zero], [⟨t, [.si .i64 (f false b d).2]⟩], some [], [((!((f false b d).2 == 0)), true), ((!((f false b d).2 == 0)), true), ((!((f false b d).2 == 0)), true), (!(n == 0), false), (!(n == 0), false), ((!((f true b c).2 == 0)), false), ((!((f false b c).2 == 0)), false), (!(n == 0), false), (!(n == 0), false), ((!((f true a d).2 == 0)), false), ((!((f false a d).2 == 0)), false), (!(n == 0), false), (!(n == 0), false), ((!((f true a c).2 == 0)), false), ((!((f false a c).2 == 0)), false), (decide ((toF 0).k ≤ d.k), false), (decide (c.k ≤ (toF 0).k), true), (!(n == 0), false), (decide (n = 0), true), (rt ⟨c, d⟩, true), (decide (n = 0), true), (rt ⟨a, b⟩, true), (decide (n = 0), true)]) := by kernel_rfl
theorem rdiv_p14 (f : Bool → F → F → F × Int) (t : Nat) (n : Int) (a b c d : F) : takeR 1 ((run Tryz.prog EH (OQDiv f) 80).1 75 (.p 0 0 :: [.agg [.fl a, .fl b], .agg [.fl c, .fl d]]) [⟨t, [.si .i64 n]⟩] (some [true, true, true, true, true, false, true, false, false, false, false, false, false, false, false, false, false, true, true, true])) = some (.agg [.fl F.zero, .fl F.zero], [⟨t, [.si .i64 (f true b c).2]⟩], some [], [((!((f true b c).2 == 0)), true), ((!((f true b c).2 == 0)), true), ((!((f true b c).2 == 0)), true), ((!((f false b c).2 == 0)), false), (!(n == 0), false), (!(n == 0), false), ((!((f true a d).2 == 0)), false), ((!((f false a d).2 == 0)), false), (!(n == 0), false), (!(n == 0), false), ((!((f true a c).2 == 0)), false), ((!((f false a c).2 == 0)), false), (decide ((toF 0).k ≤ d.k), false), (decide (c.k ≤ (toF 0).k), true), (!(n == 0), false), (decide (n = 0), true), (rt ⟨c, d⟩, true), (decide (n = 0), true), (rt ⟨a, b⟩, true), (decide (n = 0), true)]) := by kernel_rfl
theorem rdiv_p15 (f : Bool → F → F → F × Int) (t : Nat) (n : Int) (a b c d : F) : takeR 1 ((run Tryz.prog EH (OQDiv f) 80).1 75 (.p 0 0 :: [.agg [.fl a, .fl b], .agg [.fl c, .fl d]]) [⟨t, [.si .i64 n]⟩] (some [true, true, true, true, true, false, true, false, false, false, false, false, false, false, false, false, true, true, true])) = some (.agg [.fl F.zero, .fl F.zero], [⟨t, [.si .i64 (f false b c).2]⟩], some [], [((!((f false b c).2 == 0)), true), ((!((f false b c).2 == 0)), true), ((!((f false b c).2 == 0)), true), (!(n == 0), false), (!(n == 0), false), ((!((f true a d).2 == 0)), false), ((!((f false a d).2 == 0)), false), (!(n == 0), false), (!(n == 0), false), ((!((f true a c).2 == 0)), false), ((!((f false a c).2 == 0)), false), (decide ((toF 0).k ≤ d.k), false), (decide (c.k ≤ (toF 0).k), true), (!(n == 0), false), (decide (n = 0), true), (rt ⟨c, d⟩, true), (decide (n = 0), true), (rt ⟨a, b⟩, true), (decide (n = 0), true)]) := by kernel_rfl
theorem rdiv_p16 (f : Bool → F → F → F × Int) (t : Nat) (n : Int) (a b c d : F) : takeR 1 ((run Tryz.prog EH (OQDiv f) 80).1 75 (.p 0 0 :: [.agg [.fl a, .fl b], .agg [.fl c, .fl d]]) [⟨t, [.si .i64 n]⟩] (some [true, true, true, true, true, false, true, false, false, false, false, false, false, true, true, true])) = some (.agg [.fl F.zero, .fl F.zero], [⟨t, [.si .i64 (f true a d).2]⟩], some [], [((!((f true a d).2 == 0)), true), ((!((f true a d).2 == 0)), true), ((!((f true a d).2 == 0)), true), ((!((f false a d).2 == 0)), false), (!(n == 0), false), (!(n == 0), false), ((!((f true a c).2 == 0)), false), ((!((f false a c).2 == 0)), false), (decide ((toF 0).k ≤ d.k), false), (decide (c.k ≤ (toF 0).k), true), (!(n == 0), false), (decide (n = 0), true), (rt ⟨c, d⟩, true), (decide (n = 0), true), (rt ⟨a, b⟩, true), (decide (n = 0), true)]) := by kernel_rfl
theorem rdiv_p17 (f : Bool → F → F → F × Int) (t : Nat) (n : Int) (a b c d : F) : takeR 1 ((run Tryz.prog EH (OQDiv f) 80).1 75 (.p 0 0 :: [.agg [.fl a, .fl b], .agg [.fl c, .fl d]]) [⟨t, [.si .i64 n]⟩] (some [true, true, true, true, true, false, true, false, false, false, false, false, true, true, true])) = some (.agg [.fl F.zero, .fl F.zero], [⟨t, [.si .i64 (f false a d).2]⟩], some [], [((!((f false a d).2 == 0)), true), ((!((f false a d).2 == 0)), true), ((!((f false a d).2 == 0)), true), (!(n == 0), false), (!(n == 0), false), ((!((f true a c).2 == 0)), false), ((!((f false a c).2 == 0)), false), (decide ((toF 0).k ≤ d.k), false), (decide (c.k ≤ (toF 0).k), true), (!(n == 0), false), (decide (n = 0), true), (rt ⟨c, d⟩, true), (decide (n = 0), true), (rt ⟨a, b⟩, true), (decide (n = 0), true)]) := by kernel_rfl
theorem rdiv_p18 (f : Bool → F → F → F × Int) (t : Nat) (n : Int) (a b c d : F) : takeR 1 ((run Tryz.prog EH (OQDiv f) 80).1 75 (.p 0 0 :: [.agg [.fl a, .fl b], .agg [.fl c, .fl d]]) [⟨t, [.si .i64 n]⟩] (some [true, true, true, true, true, false, true, false, false, true, true, true])) = some (.agg [.fl F.zero, .fl F.zero], [⟨t, [.si .i64 (f true a c).2]⟩], some [], [((!((f true a c).2 == 0)), true), ((!((f true a c).2 == 0)), true), ((!((f true a c).2 == 0)), true), ((!((f false a c).2 == 0)), false), (decide ((toF 0).k ≤ d.k), false), (decide (c.k ≤ (toF 0).k), true), (!(n == 0), false), (decide (n = 0), true), (rt ⟨c, d⟩, true), (decide (n = 0), true), (rt ⟨a, b⟩, true), (decide (n = 0), true)]) := by kernel_rfl
theorem rdiv_p19 (f : Bool → F → F → F × Int) (t : Nat) (n : Int) (a b c d : F) : takeR 1 ((run Tryz.prog EH (OQDiv f) 80).1 75 (.p 0 0 :: [.agg [.fl a, .fl b], .agg [.fl c, .fl d]]) [⟨t, [.si .i64 n]⟩] (some [true, true, true, true, true, false, true, false, true, true, true])) = some (.agg [.fl F.zero, .fl F.zero], [⟨t, [.si .i64 (f false a c).2]⟩], some [], [((!((f false a c).2 == 0)), true), ((!((f false a c).2 == 0)), true), ((!((f false a c).2 == 0)), true), (decide ((toF 0).k ≤ d.k), false), (decide (c.k ≤ (toF 0).k), true), (!(n == 0), false), (decide (n = 0), true), (rt ⟨c, d⟩, true), (decide (n = 0), true), (rt ⟨a, b⟩, true), (decide (n = 0), true)]) := by kernel_rfl
theorem rdiv_p20 (f : Bool → F → F → F × Int) (t : Nat) (n : Int) (a b c d : F) : takeR 1 ((run Tryz.prog EH (OQDiv f) 80).1 75 (.p 0 0 :: [.agg [.fl a, .fl b], .agg [.fl c, .fl d]]) [⟨t, [.si .i64 n]⟩] (some [true, true, true, true, true, false, true, true])) = some (.agg [.fl F.zero, .fl F.zero], [⟨t, [.i .i64 11]⟩], some [], [(decide ((toF 0).k ≤ d.k), true), (decide (c.k ≤ (toF 0).k), true), (!(n == 0), false), (decide (n = 0), true), (rt ⟨c, d⟩, true), (decide (n = 0), true), (rt ⟨a, b⟩, true), (decide (n = 0), true)]) := by kernel_rfl
theorem rdiv_p21 (f : Bool → F → F → F × Int) (t : Nat) (n : Int) (a b c d : F) : takeR 1 ((run Tryz.prog EH (OQDiv f) 80).1 75 (.p 0 0 :: [.agg [.fl a, .fl b], .agg [.fl c, .fl d]]) [⟨t, [.si .i64 n]⟩] (some [false, true])) = some (.agg [.fl F.zero, .fl F.zero], [⟨t, [.si .i64 n]⟩], some [], [(!(n == 0), true), (decide (n = 0), false)]) := by kernel_rfl
theorem rdiv_I {f : Bool → F → F → F × Int} (hf : PlainOk Tryz.prog 190 (kTwo f)) : OfOk Tryz.prog 75 (kC (aII (cDiv f))) := by
  refine ofII fun a b c d t n => ?_
  cases hN : (!(n == 0))
  · have hn : n = 0 := by simpa using hN
    have hD : decide (n = 0) = true := decide_eq_true hn
    cases h1 : rt ⟨a, b⟩
    · skip
      exact calc_path goodH (oracleQDiv hf) (rdiv_p0 f t n a b c d) (obsB_yes h1 (obsB_yes hD obsB_nil)) (by simp only [cDiv, askI, allI, thenI, oneI, endsI, hullI, show (!((0 : Int) == 0)) = false from rfl, show (!((11 : Int) == 0)) = true from rfl, hasB, I.zero, h1, hN, cond_true, cond_false, Bool.and_true, Bool.true_and, Bool.and_false, Bool.false_and]) rfl
    · skip
      cases h2 : rt ⟨c, d⟩
      · skip
        exact calc_path goodH (oracleQDiv hf) (rdiv_p1 f t n a b c d) (obsB_yes h2 (obsB_yes hD (obsB_yes h1 (obsB_yes hD obsB_nil)))) (by simp only [cDiv, askI, allI, thenI, oneI, endsI, hullI, show (!((0 : Int) == 0)) = false from rfl, show (!((11 : Int) == 0)) = true from rfl, hasB, I.zero, h1, h2, hN, cond_true, cond_false, Bool.and_true, Bool.true_and, Bool.and_false, Bool.false_and]) rfl
      · skip
        cases h8 : decide (c.k ≤ (toF 0).k)
        · skip
          have h8z := h8
          rw [toF0] at h8z
          cases h10 : (!((f false a c).2 == 0))
          · skip
            cases h11 : (!((f true a c).2 == 0))
            · skip
              cases h12 : (!((f false a d).2 == 0))
              · skip
                cases h13 : (!((f true a d).2 == 0))
                · skip
                  cases h14 : (!((f false b c).2 == 0))
                  · skip
                    cases h15 : (!((f true b c).2 == 0))
                    · skip
                      cases h16 : (!((f false b d).2 == 0))
                      · skip
                        cases h17 : (!((f true b d).2 == 0))
                        · skip
                          exact calc_path goodH (oracleQDiv hf) (rdiv_p2 f t n a b c d) (obsB_yes hN (obsB_yes hN (obsB_yes h17 (obsB_yes h16 (obsB_yes hN (obsB_yes hN (obsB_yes h15 (obsB_yes h14 (obsB_yes hN (obsB_yes hN (obsB_yes h13 (obsB_yes h12 (obsB_yes hN (obsB_yes hN (obsB_yes h11 (obsB_yes h10 (obsB_yes h8 (obsB_yes hN (obsB_yes hD (obsB_yes h2 (obsB_yes hD (obsB_yes h1 (obsB_yes hD obsB_nil))))))))))))))))))))))) (by simp only [cDiv, askI, allI, thenI, oneI, endsI, hullI, show (!((0 : Int) == 0)) = false from rfl, show (!((11 : Int) == 0)) = true from rfl, hasB, I.zero, h1, h2, hN, h10, h11, h12, h13, h14, h15, h16, h17, h8z, cond_true, cond_false, Bool.and_true, Bool.true_and, Bool.and_false, Bool.false_and]) rfl
                        · skip
                          exact calc_path goodH (oracleQDiv hf) (rdiv_p3 f t n a b c d) (obsB_yes h17 (obsB_yes h17 (obsB_yes h17 (obsB_yes h16 (obsB_yes hN (obsB_yes hN (obsB_yes h15 (obsB_yes h14 (obsB_yes hN (obsB_yes hN (obsB_yes h13 (obsB_yes h12 (obsB_yes hN (obsB_yes hN (obsB_yes h11 (obsB_yes h10 (obsB_yes h8 (obsB_yes hN (obsB_yes hD (obsB_yes h2 (obsB_yes hD (obsB_yes h1 (obsB_yes hD obsB_nil))))))))))))))))))))))) (by simp only [cDiv, askI, allI, thenI, oneI, endsI, hullI, show (!((0 : Int) == 0)) = false from rfl, show (!((11 : Int) == 0)) = true from rfl, hasB, I.zero, h1, h2, hN, h10, h11, h12, h13, h14, h15, h16, h17, h8z, cond_true, cond_false, Bool.and_true, Bool.true_and, Bool.and_false, Bool.false_and]) rfl
                      · skip
                        exact calc_path goodH (oracleQDiv hf) (rdiv_p4 f t n a b c d) (obsB_yes h16 (obsB_yes h16 (obsB_yes h16 (obsB_yes hN (obsB_yes hN (obsB_yes h15 (obsB_yes h14 (obsB_yes hN (obsB_yes hN (obsB_yes h13 (obsB_yes h12 (obsB_yes hN (obsB_yes hN (obsB_yes h11 (obsB_yes h10 (obsB_yes h8 (obsB_yes hN (obsB_yes hD (obsB_yes h2 (obsB_yes hD (obsB_yes h1 (obsB_yes hD obsB_nil)))))))))))))))))))))) (by simp only [cDiv, askI, allI, thenI, oneI, endsI, hullI, show (!((0 : Int) == 0)) = false from rfl, show (!((11 : Int) == 0)) = true from rfl, hasB, I.zero, h1, h2, hN, h10, h11, h12, h13, h14, h15, h16, h8z, cond_true, cond_false, Bool.and_true, Bool.true_and, Bool.and_false, Bool.false_and]) rfl
                    · skip
                      exact calc_path goodH (oracleQDiv hf) (rdiv_p5 f t n a b c d) (obsB_yes h15 (obsB_yes h15 (obsB_yes h15 (obsB_yes h14 (obsB_yes hN (obsB_yes hN (obsB_yes h13 (obsB_yes h12 (obsB_yes hN (obsB_yes hN (obsB_yes h11 (obsB_yes h10 (obsB_yes h8 (obsB_yes hN (obsB_yes hD (obsB_yes h2 (obsB_yes hD (obsB_yes h1 (obsB_yes hD obsB_nil))))))))))))))))))) (by simp only [cDiv, askI, allI, thenI, oneI, endsI, hullI, show (!((0 : Int) == 0)) = false from rfl, show (!((11 : Int) == 0)) = true from rfl, hasB, I.zero, h1, h2, hN, h10, h11, h12, h13, h14, h15, h8z, cond_true, cond_false, Bool.and_true, Bool.true_and, Bool.and_false, Bool.false_and]) rfl
                  · skip
                    exact calc_path goodH (oracleQDiv hf) (rdiv_p6 f t n a b c d) (obsB_yes h14 (obsB_yes h14 (obsB_yes h14 (obsB_yes hN (obsB_yes hN (obsB_yes h13 (obsB_yes h12 (obsB_yes hN (obsB_yes hN (obsB_yes h11 (obsB_yes h10 (obsB_yes h8 (obsB_yes hN (obsB_yes hD (obsB_yes h2 (obsB_yes hD (obsB_yes h1 (obsB_yes hD obsB_nil)))))))))))))))))) (by simp only [cDiv, askI, allI, thenI, oneI, endsI, hullI, show (!((0 : Int) == 0)) = false from rfl, show (!((11 : Int) == 0)) = true from rfl, hasB, I.zero, h1, h2, hN, h10, h11, h12, h13, h14, h8z, cond_true, cond_false, Bool.and_true, Bool.true_and, Bool.and_false, Bool.false_and]) rfl
                · skip
                  exact calc_path goodH (oracleQDiv hf) (rdiv_p7 f t n a b c d) (obsB_yes h13 (obsB_yes h13 (obsB_yes h13 (obsB_yes h12 (obsB_yes hN (obsB_yes hN (obsB_yes h11 (obsB_yes h10 (obsB_yes h8 (obsB_yes hN (obsB_yes hD (obsB_yes h2 (obsB_yes hD (obsB_yes h1 (obsB_yes hD obsB_nil))))))))))))))) (by simp only [cDiv, askI, allI, thenI, oneI, endsI, hullI, show (!((0 : Int) == 0)) = false from rfl, show (!((11 : Int) == 0)) = true from rfl, hasB, I.zero, h1, h2, hN, h10, h11, h12, h13, h8z, cond_true, cond_false, Bool.and_true, Bool.true_and, Bool.and_false, Bool.false_and]) rfl
              · skip
                exact calc_path goodH (oracleQDiv hf) (rdiv_p8 f t n a b c d) (obsB_yes h12 (obsB_yes h12 (obsB_yes h12 (obsB_yes hN (obsB_yes hN (obsB_yes h11 (obsB_yes h10 (obsB_yes h8 (obsB_yes hN (obsB_yes hD (obsB_yes h2 (obsB_yes hD (obsB_yes h1 (obsB_yes hD obsB_nil)))))))))))))) (by simp only [cDiv, askI, allI, thenI, oneI, endsI, hullI, show (!((0 : Int) == 0)) = false from rfl, show (!((11 : Int) == 0)) = true from rfl, hasB, I.zero, h1, h2, hN, h10, h11, h12, h8z, cond_true, cond_false, Bool.and_true, Bool.true_and, Bool.and_false, Bool.false_and]) rfl
            · skip
              exact calc_path goodH (oracleQDiv hf) (rdiv_p9 f t n a b c d) (obsB_yes h11 (obsB_yes h11 (obsB_yes h11 (obsB_yes h10 (obsB_yes h8 (obsB_yes hN (obsB_yes hD (obsB_yes h2 (obsB_yes hD (obsB_yes h1 (obsB_yes hD obsB_nil))))))))))) (by simp only [cDiv, askI, allI, thenI, oneI, endsI, hullI, show (!((0 : Int) == 0)) = false from rfl, show (!((11 : Int) == 0)) = true from rfl, hasB, I.zero, h1, h2, hN, h10, h11, h8z, cond_true, cond_false, Bool.and_true, Bool.true_and, Bool.and_false, Bool.false_and]) rfl
          · skip
            exact calc_path goodH (oracleQDiv hf) (rdiv_p10 f t n a b c d) (obsB_yes h10 (obsB_yes h10 (obsB_yes h10 (obsB_yes h8 (obsB_yes hN (obsB_yes hD (obsB_yes h2 (obsB_yes hD (obsB_yes h1 (obsB_yes hD obsB_nil)))))))))) (by simp only [cDiv, askI, allI, thenI, oneI, endsI, hullI, show (!((0 : Int) == 0)) = false from rfl, show (!((11 : Int) == 0)) = true from rfl, hasB, I.zero, h1, h2, hN, h10, h8z, cond_true, cond_false, Bool.and_true, Bool.true_and, Bool.and_false, Bool.false_and]) rfl
        · skip
          have h8z := h8
          rw [toF0] at h8z
          cases h9 : decide ((toF 0).k ≤ d.k)
          · skip
            have h9z := h9
            rw [toF0] at h9z
            cases h10 : (!((f false a c).2 == 0))
            · skip
              cases h11 : (!((f true a c).2 == 0))
              · skip
                cases h12 : (!((f false a d).2 == 0))
                · skip
                  cases h13 : (!((f true a d).2 == 0))
                  · skip
                    cases h14 : (!((f false b c).2 == 0))
                    · skip
                      cases h15 : (!((f true b c).2 == 0))
                      · skip
                        cases h16 : (!((f false b d).2 == 0))
                        · skip
                          cases h17 : (!((f true b d).2 == 0))
                          · skip
                            exact calc_path goodH (oracleQDiv hf) (rdiv_p11 f t n a b c d) (obsB_yes hN (obsB_yes hN (obsB_yes h17 (obsB_yes h16 (obsB_yes hN (obsB_yes hN (obsB_yes h15 (obsB_yes h14 (obsB_yes hN (obsB_yes hN (obsB_yes h13 (obsB_yes h12 (obsB_yes hN (obsB_yes hN (obsB_yes h11 (obsB_yes h10 (obsB_yes h9 (obsB_yes h8 (obsB_yes hN (obsB_yes hD (obsB_yes h2 (obsB_yes hD (obsB_yes h1 (obsB_yes hD obsB_nil)))))))))))))))))))))))) (by simp only [cDiv, askI, allI, thenI, oneI, endsI, hullI, show (!((0 : Int) == 0)) = false from rfl, show (!((11 : Int) == 0)) = true from rfl, hasB, I.zero, h1, h2, hN, h10, h11, h12, h13, h14, h15, h16, h17, h8z, h9z, cond_true, cond_false, Bool.and_true, Bool.true_and, Bool.and_false, Bool.false_and]) rfl
                          · skip
                            exact calc_path goodH (oracleQDiv hf) (rdiv_p12 f t n a b c d) (obsB_yes h17 (obsB_yes h17 (obsB_yes h17 (obsB_yes h16 (obsB_yes hN (obsB_yes hN (obsB_yes h15 (obsB_yes h14 (obsB_yes hN (obsB_yes hN (obsB_yes h13 (obsB_yes h12 (obsB_yes hN (obsB_yes hN (obsB_yes h11 (obsB_yes h10 (obsB_yes h9 (obsB_yes h8 (obsB_yes hN (obsB_yes hD (obsB_yes h2 (obsB_yes hD (obsB_yes h1 (obsB_yes hD obsB_nil)))))))))))))))))))))))) (by simp only [cDiv, askI, allI, thenI, oneI, endsI, hullI, show (!((0 : Int) == 0)) = false from rfl, show (!((11 : Int) == 0)) = true from rfl, hasB, I.zero, h1, h2, hN, h10, h11, h12, h13, h14, h15, h16, h17, h8z, h9z, cond_true, cond_false, Bool.and_true, Bool.true_and, Bool.and_false, Bool.false_and]) rfl
                        · skip
                          exact calc_path goodH (oracleQDiv hf) (rdiv_p13 f t n a b c d) (obsB_yes h16 (obsB_yes h16 (obsB_yes h16 (obsB_yes hN (obsB_yes hN (obsB_yes h15 (obsB_yes h14 (obsB_yes hN (obsB_yes hN (obsB_yes h13 (obsB_yes h12 (obsB_yes hN (obsB_yes hN (obsB_yes h11 (obsB_yes h10 (obsB_yes h9 (obsB_yes h8 (obsB_yes hN (obsB_yes hD (obsB_yes h2 (obsB_yes hD (obsB_yes h1 (obsB_yes hD obsB_nil))))))))))))))))))))))) (by simp only [cDiv, askI, allI, thenI, oneI, endsI, hullI, show (!((0 : Int) == 0)) = false from rfl, show (!((11 : Int) == 0)) = true from rfl, hasB, I.zero, h1, h2, hN, h10, h11, h12, h13, h14, h15, h16, h8z, h9z, cond_true, cond_false, Bool.and_true, Bool.true_and, Bool.and_false, Bool.false_and]) rfl
                      · skip
                        exact calc_path goodH (oracleQDiv hf) (rdiv_p14 f t n a b c d) (obsB_yes h15 (obsB_yes h15 (obsB_yes h15 (obsB_yes h14 (obsB_yes hN (obsB_yes hN (obsB_yes h13 (obsB_yes h12 (obsB_yes hN (obsB_yes hN (obsB_yes h11 (obsB_yes h10 (obsB_yes h9 (obsB_yes h8 (obsB_yes hN (obsB_yes hD (obsB_yes h2 (obsB_yes hD (obsB_yes h1 (obsB_yes hD obsB_nil)))))))))))))))))))) (by simp only [cDiv, askI, allI, thenI, oneI, endsI, hullI, show (!((0 : Int) == 0)) = false from rfl, show (!((11 : Int) == 0)) = true from rfl, hasB, I.zero, h1, h2, hN, h10, h11, h12, h13, h14, h15, h8z, h9z, cond_true, cond_false, Bool.and_true, Bool.true_and, Bool.and_false, Bool.false_and]) rfl
                    · skip
                      exact calc_path goodH (oracleQDiv hf) (rdiv_p15 f t n a b c d) (obsB_yes h14 (obsB_yes h14 (obsB_yes h14 (obsB_yes hN (obsB_yes hN (obsB_yes h13 (obsB_yes h12 (obsB_yes hN (obsB_yes hN (obsB_yes h11 (obsB_yes h10 (obsB_yes h9 (obsB_yes h8 (obsB_yes hN (obsB_yes hD (obsB_yes h2 (obsB_yes hD (obsB_yes h1 (obsB_yes hD obsB_nil))))))))))))))))))) (by simp only [cDiv, askI, allI, thenI, oneI, endsI, hullI, show (!((0 : Int) == 0)) = false from rfl, show (!((11 : Int) == 0)) = true from rfl, hasB, I.zero, h1, h2, hN, h10, h11, h12, h13, h14, h8z, h9z, cond_true, cond_false, Bool.and_true, Bool.true_and, Bool.and_false, Bool.false_and]) rfl
                  · skip
                    exact calc_path goodH (oracleQDiv hf) (rdiv_p16 f t n a b c d) (obsB_yes h13 (obsB_yes h13 (obsB_yes h13 (obsB_yes h12 (obsB_yes hN (obsB_yes hN (obsB_yes h11 (obsB_yes h10 (obsB_yes h9 (obsB_yes h8 (obsB_yes hN (obsB_yes hD (obsB_yes h2 (obsB_yes hD (obsB_yes h1 (obsB_yes hD obsB_nil)))))))))))))))) (by simp only [cDiv, askI, allI, thenI, oneI, endsI, hullI, show (!((0 : Int) == 0)) = false from rfl, show (!((11 : Int) == 0)) = true from rfl, hasB, I.zero, h1, h2, hN, h10, h11, h12, h13, h8z, h9z, cond_true, cond_false, Bool.and_true, Bool.true_and, Bool.and_false, Bool.false_and]) rfl
                · skip
                  exact calc_path goodH (oracleQDiv hf) (rdiv_p17 f t n a b c d) (obsB_yes h12 (obsB_yes h12 (obsB_yes h12 (obsB_yes hN (obsB_yes hN (obsB_yes h11 (obsB_yes h10 (obsB_yes h9 (obsB_yes h8 (obsB_yes hN (obsB_yes hD (obsB_yes h2 (obsB_yes hD (obsB_yes h1 (obsB_yes hD obsB_nil))))))))))))))) (by simp only [cDiv, askI, allI, thenI, oneI, endsI, hullI, show (!((0 : Int) == 0)) = false from rfl, show (!((11 : Int) == 0)) = true from rfl, hasB, I.zero, h1, h2, hN, h10, h11, h12, h8z, h9z, cond_true, cond_false, Bool.and_true, Bool.true_and, Bool.and_false, Bool.false_and]) rfl
              · skip
                exact calc_path goodH (oracleQDiv hf) (rdiv_p18 f t n a b c d) (obsB_yes h11 (obsB_yes h11 (obsB_yes h11 (obsB_yes h10 (obsB_yes h9 (obsB_yes h8 (obsB_yes hN (obsB_yes hD (obsB_yes h2 (obsB_yes hD (obsB_yes h1 (obsB_yes hD obsB_nil)))))))))))) (by simp only [cDiv, askI, allI, thenI, oneI, endsI, hullI, show (!((0 : Int) == 0)) = false from rfl, show (!((11 : Int) == 0)) = true from rfl, hasB, I.zero, h1, h2, hN, h10, h11, h8z, h9z, cond_true, cond_false, Bool.and_true, Bool.true_and, Bool.and_false, Bool.false_and]) rfl
            · skip
              exact calc_path goodH (oracleQDiv hf) (rdiv_p19 f t n a b c d) (obsB_yes h10 (obsB_yes h10 (obsB_yes h10 (obsB_yes h9 (obsB_yes h8 (obsB_yes hN (obsB_yes hD (obsB_yes h2 (obsB_yes hD (obsB_yes h1 (obsB_yes hD obsB_nil))))))))))) (by simp only [cDiv, askI, allI, thenI, oneI, endsI, hullI, show (!((0 : Int) == 0)) = false from rfl, show (!((11 : Int) == 0)) = true from rfl, hasB, I.zero, h1, h2, hN, h10, h8z, h9z, cond_true, cond_false, Bool.and_true, Bool.true_and, Bool.and_false, Bool.false_and]) rfl
          · skip
            have h9z := h9
            rw [toF0] at h9z
            exact calc_path goodH (oracleQDiv hf) (rdiv_p20 f t n a b c d) (obsB_yes h9 (obsB_yes h8 (obsB_yes hN (obsB_yes hD (obsB_yes h2 (obsB_yes hD (obsB_yes h1 (obsB_yes hD obsB_nil)))))))) (by simp only [cDiv, askI, allI, thenI, oneI, endsI, hullI, show (!((0 : Int) == 0)) = false from rfl, show (!((11 : Int) == 0)) = true from rfl, hasB, I.zero, h1, h2, hN, h8z, h9z, cond_true, cond_false, Bool.and_true, Bool.true_and, Bool.and_false, Bool.false_and]) rfl
  · have hn : ¬ n = 0 := by simpa using hN
    have hD : decide (n = 0) = false := decide_eq_false hn
    exact calc_path goodH (oracleQDiv hf) (rdiv_p21 f t n a b c d) (obsB_yes hN (obsB_yes hD obsB_nil)) (by simp only [cDiv, askI, allI, thenI, oneI, endsI, hullI, show (!((0 : Int) == 0)) = false from rfl, show (!((11 : Int) == 0)) = true from rfl, hasB, I.zero, hN, cond_true, cond_false, Bool.and_true, Bool.true_and, Bool.and_false, Bool.false_and]) rfl
def OQN (g : F → F) (l m : F → F → F) : OracleF := lookO [(28, plainO oRt), (97, plainO oRight), (154, plainO (kF1 g)), (101, plainO (kF2 l)), (102, plainO (kF2 m))]
theorem oracleQN : OracleOk Tryz.prog (OQN F.neg mnF mxF) := .cons rrtG.of (.cons rRightP.of (.cons minusG.of (.cons rlessG.of (.cons moreG.of (.nil _)))))
theorem rnum_p0  (t : Nat) (n : Int) (a : F) : takeR 1 ((run Tryz.prog EH (OQN F.neg mnF mxF) 80).1 47 (.p 0 0 :: [.fl a]) [⟨t, [.si .i64 n]⟩] (some [false])) = some (.agg [.fl a, .fl a], [⟨t, [.i .i64 0]⟩], some [], [(!(n == 0), false)]) := by kernel_rfl
theorem rnum_p1  (t : Nat) (n : Int) (a : F) : takeR 1 ((run Tryz.prog EH (OQN F.neg mnF mxF) 80).1 47 (.p 0 0 :: [.fl a]) [⟨t, [.si .i64 n]⟩] (some [true])) = some (.agg [.fl F.zero, .fl F.zero], [⟨t, [.si .i64 n]⟩], some [], [(!(n == 0), true)]) := by kernel_rfl
theorem rnum_I  : OfOk Tryz.prog 47 (kC (aF cNum)) := by
  refine ofF fun a t n => ?_
  cases hN : (!(n == 0))
  · have hn : n = 0 := by simpa using hN
    have hD : decide (n = 0) = true := decide_eq_true hn
    exact calc_path goodH oracleQN (rnum_p0  t n a) (obsB_yes hN obsB_nil) (by simp only [cNum, askI, show (!((0 : Int) == 0)) = false from rfl, hn, I.zero, hN, cond_true, cond_false, Bool.and_true, Bool.true_and, Bool.and_false, Bool.false_and]) rfl
  · have hn : ¬ n = 0 := by simpa using hN
    have hD : decide (n = 0) = false := decide_eq_false hn
    exact calc_path goodH oracleQN (rnum_p1  t n a) (obsB_yes hN obsB_nil) (by simp only [cNum, askI, show (!((0 : Int) == 0)) = false from rfl, hn, I.zero, hN, cond_true, cond_false, Bool.and_true, Bool.true_and, Bool.and_false, Bool.false_and]) rfl
theorem rneg_p0  (t : Nat) (n : Int) (a b : F) : takeR 1 ((run Tryz.prog EH (OQN F.neg mnF mxF) 80).1 76 (.p 0 0 :: [.agg [.fl a, .fl b]]) [⟨t, [.si .i64 n]⟩] (some [true, false])) = some (.agg [.fl F.zero, .fl F.zero], [⟨t, [.i .i64 20]⟩], some [], [(rt ⟨a, b⟩, false), (decide (n = 0), true)]) := by kernel_rfl
theorem rneg_p1  (t : Nat) (n : Int) (a b : F) : takeR 1 ((run Tryz.prog EH (OQN F.neg mnF mxF) 80).1 76 (.p 0 0 :: [.agg [.fl a, .fl b]]) [⟨t, [.si .i64 n]⟩] (some [true, true, true, false])) = some (.agg [.fl b.neg, .fl a.neg], [⟨t, [.si .i64 n]⟩], some [], [(!(n == 0), false), (decide (n = 0), true), (rt ⟨a, b⟩, true), (decide (n = 0), true)]) := by kernel_rfl
theorem rneg_p2  (t : Nat) (n : Int) (a b : F) : takeR 1 ((run Tryz.prog EH (OQN F.neg mnF mxF) 80).1 76 (.p 0 0 :: [.agg [.fl a, .fl b]]) [⟨t, [.si .i64 n]⟩] (some [false, true])) = some (.agg [.fl F.zero, .fl F.zero], [⟨t, [.si .i64 n]⟩], some [], [(!(n == 0), true), (decide (n = 0), false)]) := by kernel_rfl
theorem rneg_I  : OfOk Tryz.prog 76 (kC (aI cNeg)) := by
  refine ofI fun a b t n => ?_
  cases hN : (!(n == 0))
  · have hn : n = 0 := by simpa using hN
    have hD : decide (n = 0) = true := decide_eq_true hn
    cases h1 : rt ⟨a, b⟩
    · skip
      exact calc_path goodH oracleQN (rneg_p0  t n a b) (obsB_yes h1 (obsB_yes hD obsB_nil)) (by simp only [cNeg, turnI, askI, show (!((0 : Int) == 0)) = false from rfl, I.zero, h1, hN, cond_true, cond_false, Bool.and_true, Bool.true_and, Bool.and_false, Bool.false_and]) rfl
    · skip
      exact calc_path goodH oracleQN (rneg_p1  t n a b) (obsB_yes hN (obsB_yes hD (obsB_yes h1 (obsB_yes hD obsB_nil)))) (by simp only [cNeg, turnI, askI, show (!((0 : Int) == 0)) = false from rfl, I.zero, h1, hN, cond_true, cond_false, Bool.and_true, Bool.true_and, Bool.and_false, Bool.false_and]) rfl
  · have hn : ¬ n = 0 := by simpa using hN
    have hD : decide (n = 0) = false := decide_eq_false hn
    exact calc_path goodH oracleQN (rneg_p2  t n a b) (obsB_yes hN (obsB_yes hD obsB_nil)) (by simp only [cNeg, turnI, askI, show (!((0 : Int) == 0)) = false from rfl, I.zero, hN, cond_true, cond_false, Bool.and_true, Bool.true_and, Bool.and_false, Bool.false_and]) rfl
theorem rabs_p0  (t : Nat) (n : Int) (a b : F) : takeR 1 ((run Tryz.prog EH (OQN F.neg mnF mxF) 80).1 153 (.p 0 0 :: [.agg [.fl a, .fl b]]) [⟨t, [.si .i64 n]⟩] (some [true, false])) = some (.agg [.fl F.zero, .fl F.zero], [⟨t, [.i .i64 20]⟩], some [], [(rt ⟨a, b⟩, false), (decide (n = 0), true)]) := by kernel_rfl
theorem rabs_p1  (t : Nat) (n : Int) (a b : F) : takeR 1 ((run Tryz.prog EH (OQN F.neg mnF mxF) 80).1 153 (.p 0 0 :: [.agg [.fl a, .fl b]]) [⟨t, [.si .i64 n]⟩] (some [true, true, true, false, false, false])) = some (.agg [.fl F.zero, .fl (mxF a.neg b)], [⟨t, [.si .i64 n]⟩], some [], [(decide (b.k ≤ (toF 0).k), false), (decide ((toF 0).k ≤ a.k), false), (!(n == 0), false), (decide (n = 0), true), (rt ⟨a, b⟩, true), (decide (n = 0), true)]) := by kernel_rfl
theorem rabs_p2  (t : Nat) (n : Int) (a b : F) : takeR 1 ((run Tryz.prog EH (OQN F.neg mnF mxF) 80).1 153 (.p 0 0 :: [.agg [.fl a, .fl b]]) [⟨t, [.si .i64 n]⟩] (some [true, true, true, false, false, true, true, true, true, false])) = some (.agg [.fl b.neg, .fl a.neg], [⟨t, [.si .i64 n]⟩], some [], [(!(n == 0), false), (decide (n = 0), true), (rt ⟨a, b⟩, true), (decide (n = 0), true), (decide (b.k ≤ (toF 0).k), true), (decide ((toF 0).k ≤ a.k), false), (!(n == 0), false), (decide (n = 0), true), (rt ⟨a, b⟩, true), (decide (n = 0), true)]) := by kernel_rfl
theorem rabs_p3  (t : Nat) (n : Int) (a b : F) : takeR 1 ((run Tryz.prog EH (OQN F.neg mnF mxF) 80).1 153 (.p 0 0 :: [.agg [.fl a, .fl b]]) [⟨t, [.si .i64 n]⟩] (some [true, true, true, false, true, false])) = some (.agg [.fl a, .fl b], [⟨t, [.si .i64 n]⟩], some [], [(!(n == 0), false), (decide ((toF 0).k ≤ a.k), true), (!(n == 0), false), (decide (n = 0), true), (rt ⟨a, b⟩, true), (decide (n = 0), true)]) := by kernel_rfl
theorem rabs_p4  (t : Nat) (n : Int) (a b : F) : takeR 1 ((run Tryz.prog EH (OQN F.neg mnF mxF) 80).1 153 (.p 0 0 :: [.agg [.fl a, .fl b]]) [⟨t, [.si .i64 n]⟩] (some [false, true, true])) = some (.agg [.fl F.zero, .fl F.zero], [⟨t, [.si .i64 n]⟩], some [], [(!(n == 0), true), (!(n == 0), true), (decide (n = 0), false)]) := by kernel_rfl
theorem rabs_I  : OfOk Tryz.prog 153 (kC (aI cAbs)) := by
  refine ofI fun a b t n => ?_
  cases hN : (!(n == 0))
  · have hn : n = 0 := by simpa using hN
    have hD : decide (n = 0) = true := decide_eq_true hn
    cases h1 : rt ⟨a, b⟩
    · skip
      exact calc_path goodH oracleQN (rabs_p0  t n a b) (obsB_yes h1 (obsB_yes hD obsB_nil)) (by simp only [cAbs, bareI, turnI, askI, show (!((0 : Int) == 0)) = false from rfl, mx_comm b a.neg, I.zero, h1, hN, cond_true, cond_false, Bool.and_true, Bool.true_and, Bool.and_false, Bool.false_and]) rfl
    · skip
      cases h5 : decide ((toF 0).k ≤ a.k)
      · skip
        have h5z := h5
        rw [zero_k'] at h5z
        cases h6 : decide (b.k ≤ (toF 0).k)
        · skip
          have h6z := h6
          rw [zero_k'] at h6z
          exact calc_path goodH oracleQN (rabs_p1  t n a b) (obsB_yes h6 (obsB_yes h5 (obsB_yes hN (obsB_yes hD (obsB_yes h1 (obsB_yes hD obsB_nil)))))) (by simp only [cAbs, bareI, turnI, askI, show (!((0 : Int) == 0)) = false from rfl, mx_comm b a.neg, I.zero, h1, hN, h5z, h6z, cond_true, cond_false, Bool.and_true, Bool.true_and, Bool.and_false, Bool.false_and]) rfl
        · skip
          have h6z := h6
          rw [zero_k'] at h6z
          exact calc_path goodH oracleQN (rabs_p2  t n a b) (obsB_yes hN (obsB_yes hD (obsB_yes h1 (obsB_yes hD (obsB_yes h6 (obsB_yes h5 (obsB_yes hN (obsB_yes hD (obsB_yes h1 (obsB_yes hD obsB_nil)))))))))) (by simp only [cAbs, bareI, turnI, askI, show (!((0 : Int) == 0)) = false from rfl, mx_comm b a.neg, I.zero, h1, hN, h5z, h6z, cond_true, cond_false, Bool.and_true, Bool.true_and, Bool.and_false, Bool.false_and]) rfl
      · skip
        have h5z := h5
        rw [zero_k'] at h5z
        exact calc_path goodH oracleQN (rabs_p3  t n a b) (obsB_yes hN (obsB_yes h5 (obsB_yes hN (obsB_yes hD (obsB_yes h1 (obsB_yes hD obsB_nil)))))) (by simp only [cAbs, bareI, turnI, askI, show (!((0 : Int) == 0)) = false from rfl, mx_comm b a.neg, I.zero, h1, hN, h5z, cond_true, cond_false, Bool.and_true, Bool.true_and, Bool.and_false, Bool.false_and]) rfl
  · have hn : ¬ n = 0 := by simpa using hN
    have hD : decide (n = 0) = false := decide_eq_false hn
    exact calc_path goodH oracleQN (rabs_p4  t n a b) (obsB_yes hN (obsB_yes hN (obsB_yes hD obsB_nil))) (by simp only [cAbs, bareI, turnI, askI, show (!((0 : Int) == 0)) = false from rfl, mx_comm b a.neg, I.zero, hN, cond_true, cond_false, Bool.and_true, Bool.true_and, Bool.and_false, Bool.false_and]) rfl
theorem rmax_p0  (t : Nat) (n : Int) (a b c d : F) : takeR 1 ((run Tryz.prog EH (OQN F.neg mnF mxF) 80).1 45 (.p 0 0 :: [.agg [.fl a, .fl b], .agg [.fl c, .fl d]]) [⟨t, [.si .i64 n]⟩] (some [true, false])) = some (.agg [.fl F.zero, .fl F.zero], [⟨t, [.i .i64 20]⟩], some [], [(rt ⟨a, b⟩, false), (decide (n = 0), true)]) := by kernel_rfl
theorem rmax_p1  (t : Nat) (n : Int) (a b c d : F) : takeR 1 ((run Tryz.prog EH (OQN F.neg mnF mxF) 80).1 45 (.p 0 0 :: [.agg [.fl a, .fl b], .agg [.fl c, .fl d]]) [⟨t, [.si .i64 n]⟩] (some [true, true, true, false])) = some (.agg [.fl F.zero, .fl F.zero], [⟨t, [.i .i64 20]⟩], some [], [(rt ⟨c, d⟩, false), (decide (n = 0), true), (rt ⟨a, b⟩, true), (decide (n = 0), true)]) := by kernel_rfl
theorem rmax_p2  (t : Nat) (n : Int) (a b c d : F) : takeR 1 ((run Tryz.prog EH (OQN F.neg mnF mxF) 80).1 45 (.p 0 0 :: [.agg [.fl a, .fl b], .agg [.fl c, .fl d]]) [⟨t, [.si .i64 n]⟩] (some [true, true, true, true, true, false])) = some (.agg [.fl (mxF a c), .fl (mxF b d)], [⟨t, [.si .i64 n]⟩], some [], [(!(n == 0), false), (decide (n = 0), true), (rt ⟨c, d⟩, true), (decide (n = 0), true), (rt ⟨a, b⟩, true), (decide (n = 0), true)]) := by kernel_rfl
theorem rmax_p3  (t : Nat) (n : Int) (a b c d : F) : takeR 1 ((run Tryz.prog EH (OQN F.neg mnF mxF) 80).1 45 (.p 0 0 :: [.agg [.fl a, .fl b], .agg [.fl c, .fl d]]) [⟨t, [.si .i64 n]⟩] (some [false, true])) = some (.agg [.fl F.zero, .fl F.zero], [⟨t, [.si .i64 n]⟩], some [], [(!(n == 0), true), (decide (n = 0), false)]) := by kernel_rfl
theorem rmax_I  : OfOk Tryz.prog 45 (kC (aII cMax)) := by
  refine ofII fun a b c d t n => ?_
  cases hN : (!(n == 0))
  · have hn : n = 0 := by simpa using hN
    have hD : decide (n = 0) = true := decide_eq_true hn
    cases h1 : rt ⟨a, b⟩
    · skip
      exact calc_path goodH oracleQN (rmax_p0  t n a b c d) (obsB_yes h1 (obsB_yes hD obsB_nil)) (by simp only [cMax, maxI, askI, show (!((0 : Int) == 0)) = false from rfl, I.zero, h1, hN, cond_true, cond_false, Bool.and_true, Bool.true_and, Bool.and_false, Bool.false_and]) rfl
    · skip
      cases h2 : rt ⟨c, d⟩
      · skip
        exact calc_path goodH oracleQN (rmax_p1  t n a b c d) (obsB_yes h2 (obsB_yes hD (obsB_yes h1 (obsB_yes hD obsB_nil)))) (by simp only [cMax, maxI, askI, show (!((0 : Int) == 0)) = false from rfl, I.zero, h1, h2, hN, cond_true, cond_false, Bool.and_true, Bool.true_and, Bool.and_false, Bool.false_and]) rfl
      · skip
        exact calc_path goodH oracleQN (rmax_p2  t n a b c d) (obsB_yes hN (obsB_yes hD (obsB_yes h2 (obsB_yes hD (obsB_yes h1 (obsB_yes hD obsB_nil)))))) (by simp only [cMax, maxI, askI, show (!((0 : Int) == 0)) = false from rfl, I.zero, h1, h2, hN, cond_true, cond_false, Bool.and_true, Bool.true_and, Bool.and_false, Bool.false_and]) rfl
  · have hn : ¬ n = 0 := by simpa using hN
    have hD : decide (n = 0) = false := decide_eq_false hn
    exact calc_path goodH oracleQN (rmax_p3  t n a b c d) (obsB_yes hN (obsB_yes hD obsB_nil)) (by simp only [cMax, maxI, askI, show (!((0 : Int) == 0)) = false from rfl, I.zero, hN, cond_true, cond_false, Bool.and_true, Bool.true_and, Bool.and_false, Bool.false_and]) rfl
end Go.Proofs.YtmhhopfffeijnaaGreat
