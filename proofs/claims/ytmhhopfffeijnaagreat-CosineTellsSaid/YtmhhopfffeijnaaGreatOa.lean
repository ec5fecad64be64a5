/- burnishref02: the method Sqrt of Calc; burnishref03.Of; burnishref06.Kept (written by gencalc2.py). -/
import Derived.Test.YtmhhopfffeijnaaGreatNs
import Derived.Test.YtmhhopfffeijnaaGreatNy
import Derived.Test.YtmhhopfffeijnaaGreatUt5
namespace Go.Proofs.YtmhhopfffeijnaaGreat
set_option linter.all false
open Go.RowKit Bu Rx

def OQSq (f : Bool → F → F × Int) : OracleF := lookO [(28, plainO oRt), (122, plainO (kOne f))]
theorem oracleQSq {f : Bool → F → F × Int} (hf : PlainOk Tryz.prog 122 (kOne f)) : OracleOk Tryz.prog (OQSq f) := .cons rrtG.of (.cons hf.of (.nil _))
theorem rsqt_p0 (f : Bool → F → F × Int) (t : Nat) (n : Int) (a b : F) : takeR 1 ((run Tryz.prog EH (OQSq f) 80).1 44 (.p 0 0 :: [.agg [.fl a, .fl b]]) [⟨t, [.si .i64 n]⟩] (some [true, false])) = some (.agg [.fl F.zero, .fl F.zero], [⟨t, [.i .i64 20]⟩], some [], [(rt ⟨a, b⟩, false), (decide (n = 0), true)]) := by kernel_rfl
theorem rsqt_p1 (f : Bool → F → F × Int) (t : Nat) (n : Int) (a b : F) : takeR 1 ((run Tryz.prog EH (OQSq f) 80).1 44 (.p 0 0 :: [.agg [.fl a, .fl b]]) [⟨t, [.si .i64 n]⟩] (some [true, true, true, false, false, false, false])) = some (.agg [.fl (f false a).1, .fl (f true b).1], [⟨t, [.si .i64 n]⟩], some [], [(!(n == 0), false), ((!((f true b).2 == 0)), false), ((!((f false a).2 == 0)), false), (!(n == 0), false), (decide (n = 0), true), (rt ⟨a, b⟩, true), (decide (n = 0), true)]) := by kernel_rfl
theorem rsqt_p2 (f : Bool → F → F × Int) (t : Nat) (n : Int) (a b : F) : takeR 1 ((run Tryz.prog EH (OQSq f) 80).1 44 (.p 0 0 :: [.agg [.fl a, .fl b]]) [⟨t, [.si .i64 n]⟩] (some [true, true, true, false, false, true, true])) = some (.agg [.fl F.zero, .fl F.zero], [⟨t, [.si .i64 (f true b).2]⟩], some [], [((!((f true b).2 == 0)), true), ((!((f true b).2 == 0)), true), ((!((f false a).2 == 0)), false), (!(n == 0), false), (decide (n = 0), true), (rt ⟨a, b⟩, true), (decide (n = 0), true)]) := by kernel_rfl
theorem rsqt_p3 (f : Bool → F → F × Int) (t : Nat) (n : Int) (a b : F) : takeR 1 ((run Tryz.prog EH (OQSq f) 80).1 44 (.p 0 0 :: [.agg [.fl a, .fl b]]) [⟨t, [.si .i64 n]⟩] (some [true, true, true, false, true, true])) = some (.agg [.fl F.zero, .fl F.zero], [⟨t, [.si .i64 (f false a).2]⟩], some [], [((!((f false a).2 == 0)), true), ((!((f false a).2 == 0)), true), (!(n == 0), false), (decide (n = 0), true), (rt ⟨a, b⟩, true), (decide (n = 0), true)]) := by kernel_rfl
theorem rsqt_p4 (f : Bool → F → F × Int) (t : Nat) (n : Int) (a b : F) : takeR 1 ((run Tryz.prog EH (OQSq f) 80).1 44 (.p 0 0 :: [.agg [.fl a, .fl b]]) [⟨t, [.si .i64 n]⟩] (some [false, true])) = some (.agg [.fl F.zero, .fl F.zero], [⟨t, [.si .i64 n]⟩], some [], [(!(n == 0), true), (decide (n = 0), false)]) := by kernel_rfl
theorem rsqt_I {f : Bool → F → F × Int} (hf : PlainOk Tryz.prog 122 (kOne f)) : OfOk Tryz.prog 44 (kC (aI (cSqrt f))) := by
  refine ofI fun a b t n => ?_
  cases hN : (!(n == 0))
  · have hn : n = 0 := by simpa using hN
    have hD : decide (n = 0) = true := decide_eq_true hn
    cases h1 : rt ⟨a, b⟩
    · skip
      exact calc_path goodH (oracleQSq hf) (rsqt_p0 f t n a b) (obsB_yes h1 (obsB_yes hD obsB_nil)) (by simp only [cSqrt, askI, endsI, I.zero, h1, hN, cond_true, cond_false, Bool.and_true, Bool.true_and, Bool.and_false, Bool.false_and]) rfl
    · skip
      cases h3 : (!((f false a).2 == 0))
      · skip
        cases h4 : (!((f true b).2 == 0))
        · skip
          exact calc_path goodH (oracleQSq hf) (rsqt_p1 f t n a b) (obsB_yes hN (obsB_yes h4 (obsB_yes h3 (obsB_yes hN (obsB_yes hD (obsB_yes h1 (obsB_yes hD obsB_nil))))))) (by simp only [cSqrt, askI, endsI, I.zero, h1, h3, h4, hN, cond_true, cond_false, Bool.and_true, Bool.true_and, Bool.and_false, Bool.false_and]) rfl
        · skip
          exact calc_path goodH (oracleQSq hf) (rsqt_p2 f t n a b) (obsB_yes h4 (obsB_yes h4 (obsB_yes h3 (obsB_yes hN (obsB_yes hD (obsB_yes h1 (obsB_yes hD obsB_nil))))))) (by simp only [cSqrt, askI, endsI, I.zero, h1, h3, h4, hN, cond_true, cond_false, Bool.and_true, Bool.true_and, Bool.and_false, Bool.false_and]) rfl
      · skip
        exact calc_path goodH (oracleQSq hf) (rsqt_p3 f t n a b) (obsB_yes h3 (obsB_yes h3 (obsB_yes hN (obsB_yes hD (obsB_yes h1 (obsB_yes hD obsB_nil)))))) (by simp only [cSqrt, askI, endsI, I.zero, h1, h3, hN, cond_true, cond_false, Bool.and_true, Bool.true_and, Bool.and_false, Bool.false_and]) rfl
  · have hn : ¬ n = 0 := by simpa using hN
    have hD : decide (n = 0) = false := decide_eq_false hn
    exact calc_path goodH (oracleQSq hf) (rsqt_p4 f t n a b) (obsB_yes hN (obsB_yes hD obsB_nil)) (by simp only [cSqrt, askI, endsI, I.zero, hN, cond_true, cond_false, Bool.and_true, Bool.true_and, Bool.and_false, Bool.false_and]) rfl
theorem rsqtC : OfOk Tryz.prog 44 (kC (aI (cSqrt qSqrt))) := rsqt_I rsqrtG
theorem rofK : PlainOk Tryz.prog 43 (kOf unI fun n => decide (0 ≤ n ∧ n ≤ 18446744073709551615)) := by
  intro args ds x ds' ob h ho
  unfold kOf at h
  split at h
  · rename_i u
    split at h
    · rename_i n hk
      simp only [Option.some.injEq, Prod.mk.injEq] at h; obtain ⟨rfl, _, rfl⟩ := h
      have hn := of_decide_eq_true (ho _ (List.mem_cons_self ..))
      obtain ⟨k, rfl⟩ := Int.eq_ofNat_of_zero_le hn.1
      refine ⟨[.int .u64 (k : Int)], _, plains_cons (intS_plain hk) plains_nil, rfl, fun w => (rOf_w k (by omega) w).mono ?_⟩
      rintro e w' ⟨rfl, hb⟩
      exact ⟨by unfold unI; rw [Int.toNat_natCast], hb⟩
    · cases h
  · cases h
/-! Kept -/
def endF (x l h : F) : F := mnF (mxF x l) h
def kEnd (f : F → F → F → F) : List SV → Dec → Option (SV × Dec × Obs)
  | [.fl x, .fl l, .fl h], ds => some (.fl (f x l h), ds, [(decide (l.k ≤ h.k), true)])
  | _, _ => none
def kKept (f : F → F → F → F) : List SV → Dec → Option (SV × Dec × Obs)
  | [.agg [.fl a, .fl b], .fl l, .fl h], ds => some (.agg [.fl (f a l h), .fl (f b l h)], ds, [(decide (l.k ≤ h.k), true)])
  | _, _ => none
theorem endRun1 (x l h : F) : valR ((run Tryz.prog EH OQ0 60).1 126 [.fl x, .fl l, .fl h] [] (some [true])) = some (.fl l, some [], [(decide (x.k < l.k), true)]) := by kernel_rfl
theorem endRun2 (x l h : F) (d : Bool) : valR ((run Tryz.prog EH OQ0 60).1 126 [.fl x, .fl l, .fl h] [] (some [false, d])) = some (.fl (bif d then h else x), some [], [(decide (h.k < x.k), d), (decide (x.k < l.k), false)]) := by cases d <;> kernel_rfl
theorem endK : PlainOk Tryz.prog 126 (kEnd endF) := by
  intro args ds y ds' ob h1 ho
  unfold kEnd at h1
  split at h1
  · rename_i x l h
    simp only [Option.some.injEq, Prod.mk.injEq] at h1
    obtain ⟨rfl, _, rfl⟩ := h1
    have hl := of_decide_eq_true (ho _ (List.mem_cons_self ..))
    refine ⟨[.float .f64 x.b, .float .f64 l.b, .float .f64 h.b], _, rfl, rfl, fun w => ?_⟩
    cases g1 : decide (x.k < l.k)
    · have e : endF x l h = bif decide (h.k < x.k) then h else x := by
        have := of_decide_eq_false g1
        apply F.ext'
        unfold endF
        rw [mnF_k, mxF_k]
        cases g2 : decide (h.k < x.k)
        · have := of_decide_eq_false g2; show _ = x.k; omega
        · have := of_decide_eq_true g2; show _ = h.k; omega
      rw [e]
      exact calls_of_val goodH oracleQ0 60 (endRun2 x l h _) (ObsOk.of_B (obsB_yes rfl (obsB_yes g1 obsB_nil))) rfl rfl w
    · have e : endF x l h = l := by
        have := of_decide_eq_true g1
        apply F.ext'
        unfold endF
        rw [mnF_k, mxF_k]
        omega
      rw [e]
      exact calls_of_val goodH oracleQ0 60 (endRun1 x l h) (ObsOk.of_B (obsB_yes g1 obsB_nil)) rfl rfl w
  · cases h1
def OKe (f : F → F → F → F) : OracleF := lookO [(126, plainO (kEnd f))]
theorem oracleKe : OracleOk Tryz.prog (OKe endF) := .cons endK.of (.nil _)
theorem keptRun (f : F → F → F → F) (a b l h : F) : valR ((run Tryz.prog EH (OKe f) 60).1 48 [.agg [.fl a, .fl b], .fl l, .fl h] [] (some [])) = some (.agg [.fl (f a l h), .fl (f b l h)], some [], [(decide (l.k ≤ h.k), true), (decide (l.k ≤ h.k), true)]) := by kernel_rfl
theorem keptK : PlainOk Tryz.prog 48 (kKept endF) := by
  intro args ds y ds' ob h1 ho
  unfold kKept at h1
  split at h1
  · rename_i a b l h
    simp only [Option.some.injEq, Prod.mk.injEq] at h1
    obtain ⟨rfl, _, rfl⟩ := h1
    have hl := ho _ (List.mem_cons_self ..)
    exact ⟨[.agg #[.float .f64 a.b, .float .f64 b.b], .float .f64 l.b, .float .f64 h.b], _, rfl, rfl, fun w => calls_of_val goodH oracleKe 60 (keptRun endF a b l h) (ObsOk.of_B (obsB_yes hl (obsB_yes hl obsB_nil))) rfl rfl w⟩
  · cases h1
end Go.Proofs.YtmhhopfffeijnaaGreat
