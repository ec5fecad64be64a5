/- burnishref02: the method Sqrt of Calc; burnishref03.Of; burnishref06.Kept (written by gencalc2.py). burnishref12, by the reckoner: Draw, Mid. CosineTells, by the reckoner. -/
import Derived.Test.YtmhhopfffeijnaaGreatZ23
import Derived.Test.YtmhhopfffeijnaaGreatZ24
import Derived.Test.YtmhhopfffeijnaaGreatZ25
import Derived.Test.YtmhhopfffeijnaaGreatZ26
import Derived.Test.YtmhhopfffeijnaaGreatZ28
namespace Go.Proofs.YtmhhopfffeijnaaGreat
set_option linter.all false
open Go.RowKit Bu Rx

def OQSq (f : Bool → F → F × Int) : OracleF := lookO [(28, plainO oRt), (122, plainO (kOne f))]
theorem oracleQSq {f : Bool → F → F × Int} (hf : PlainOk Tryz.prog 122 (kOne f)) : OracleOk Tryz.prog (OQSq f) := .cons rrtG.of (.cons hf.of (.nil _))
theorem rsqt_p0 (f : Bool → F → F × Int) (t : Nat) (n : Int) (a b : F) : takeR 1 ((run Tryz.prog EH (OQSq f) 80).1 44 (.p 0 0 :: [.agg [.fl a, .fl b]]) [⟨t, [.si .i64 n]⟩] (some [true, false])) = some (.agg [.fl F.zero, .fl F.zero], [⟨t, [.i .i64 20]⟩], some [], [(rt ⟨a, b⟩, false), (decide (n = 0), true)]) := by kernel_rfl
theorem rsqt_p1 (f : Bool → F → F × Int) (t : Nat) (n : Int) (a b : F) : takeR 1 ((run Tryz.prog EH (OQSq f) 80).1 44 (.p 0 0 :: [.agg [.fl a, .fl b]]) [⟨t, [.si .i64 n]⟩] (some [true, true, true, false, false, false, false])) = some (.agg [.fl (f false a).1, .fl (f true b).1], [⟨t, [.si .i64 n]⟩], some [], [(!(n == 0), false), ((!((f true b).2 == 0)), false), ((!((f false a).2 == 0)), false), (!(n == 0), false), (decide (n = 0), true), (rt ⟨a, b⟩, true), (decide (n = 0), true)]) := by kernel_rfl
theorem rsqt_p2 (f : Bool → F → F × Int) (t : Nat) (n : Int) (a b : F) : takeR 1 ((run Tryz.prog EH (OQSq f) 80).1 44 (.p 0 0 :: [.agg [.fl a, .fl b]]) [⟨t, [.si .i64 n]⟩] (some [true, true, true, false, false, true, true])) = some (.agg [.fl F.zero, .fl F.zero], [⟨t, [.si .i64 (f true b).2]⟩], some [], [((!((f true b).2 == 0)), true), ((!((f true b).2 == 0)), true), ((!((f false a).2 == 0)), false), (!(n == 0), false), (decide (n = 0), true), (rt ⟨a, b⟩, true), (decide (n = 0), true)]) := by kernel_rfl
theorem rsqt_p3 (f : Bool → F → F × Int) (t : Nat) (n : Int) (a b : F) : takeR 1 ((run Tryz.prog EH (OQSq f) 80).1 44 (.p 0 0 :: [.agg [.fl a, .fl b]]) [⟨t, [.si .i64 n]⟩] (some [true, true, true, false, true, true])) = some (.agg [.fl F.zero, .fl F.zero], [⟨t, [.si .i64 (f false a).2]⟩], some [], [((!((f false a).2 == 0)), true), ((!((f false a).2 == 0)), true), (!(n == 0), false), (decide (n = 0), true), (rt ⟨a, b⟩, true), (decide (n = 0), true)]) := by kernel_rfl
theorem rsqt_p4 (f : Bool → F → F × Int) (t : Nat) (n : Int) (a b : F) : takeR 1 ((run Tryz.prog EH (OQSq f) 80).1 44 (.p 0 0 :: [.agg [.fl a, .fl b]]) [⟨t, [.si .i64 n]⟩] (some [false, true])) = some (.agg [.fl F.zero, .fl F.zero], [⟨t, [.si .i64 n]⟩], some [], [(!(n == 0), true), (decide (n = 0), false)]) := by kernel_rfl
theorem rsqt_I {f : Bool → F → F × Int} (hf : PlainOk Tryz.prog 122 (kOne f)) : OfOk Tryz.prog 44 (kC (aI (cSqrt f))) := by
  refine ofI fun a b t n => ?_
  cases hN : (!(n == 0))
  · have hn : n = 0 := by simpa using hN
    have hD : decide (n = 0) = true := decide_eq_true hn
    cases h1 : rt ⟨a, b⟩
    · skip
      exact calc_path goodH (oracleQSq hf) (rsqt_p0 f t n a b) (obsB_yes h1 (obsB_yes hD obsB_nil)) (by simp only [cSqrt, askI, endsI, I.zero, h1, hN, cond_true, cond_false, Bool.and_true, Bool.true_and, Bool.and_false, Bool.false_and]) rfl
    · skip
      cases h3 : (!((f false a).2 == 0))
      · skip
        cases h4 : (!((f true b).2 == 0))
        · skip
          exact calc_path goodH (oracleQSq hf) (rsqt_p1 f t n a b) (obsB_yes hN (obsB_yes h4 (obsB_yes h3 (obsB_yes hN (obsB_yes hD (obsB_yes h1 (obsB_yes hD obsB_nil))))))) (by simp only [cSqrt, askI, endsI, I.zero, h1, h3, h4, hN, cond_true, cond_false, Bool.and_true, Bool.true_and, Bool.and_false, Bool.false_and]) rfl
        · skip
          exact calc_path goodH (oracleQSq hf) (rsqt_p2 f t n a b) (obsB_yes h4 (obsB_yes h4 (obsB_yes h3 (obsB_yes hN (obsB_yes hD (obsB_yes h1 (obsB_yes hD obsB_nil))))))) (by simp only [cSqrt, askI, endsI, I.zero, h1, h3, h4, hN, cond_true, cond_false, Bool.and_true, Bool.true_and, Bool.and_false, Bool.false_and]) rfl
      · skip
        exact calc_path goodH (oracleQSq hf) (rsqt_p3 f t n a b) (obsB_yes h3 (obsB_yes h3 (obsB_yes hN (obsB_yes hD (obsB_yes h1 (obsB_yes hD obsB_nil)))))) (by simp only [cSqrt, askI, endsI, I.zero, h1, h3, hN, cond_true, cond_false, Bool.and_true, Bool.true_and, Bool.and_false, Bool.false_and]) rfl
  · have hn : ¬ n = 0 := by simpa using hN
    have hD : decide (n = 0) = false := decide_eq_false hn
    exact calc_path goodH (oracleQSq hf) (rsqt_p4 f t n a b) (obsB_yes hN (obsB_yes hD obsB_nil)) (by simp only [cSqrt, askI, endsI, I.zero, hN, cond_true, cond_false, Bool.and_true, Bool.true_and, Bool.and_false, Bool.false_and]) rfl
theorem rsqtC : OfOk Tryz.prog 44 (kC (aI (cSqrt qSqrt))) := rsqt_I rsqrtG
theorem rofK : PlainOk Tryz.prog 43 (kOf unI fun n => decide (0 ≤ n ∧ n ≤ 18446744073709551615)) := by
  intro args ds x ds' ob h ho
  unfold kOf at h
  split at h
  · rename_i u
    split at h
    · rename_i n hk
      simp only [Option.some.injEq, Prod.mk.injEq] at h; obtain ⟨rfl, _, rfl⟩ := h
      have hn := of_decide_eq_true (ho _ (List.mem_cons_self ..))
      obtain ⟨k, rfl⟩ := Int.eq_ofNat_of_zero_le hn.1
      refine ⟨[.int .u64 (k : Int)], _, plains_cons (intS_plain hk) plains_nil, rfl, fun w => (rOf_w k (by omega) w).mono ?_⟩
      rintro e w' ⟨rfl, hb⟩
      exact ⟨by unfold unI; rw [Int.toNat_natCast], hb⟩
    · cases h
  · cases h
def endF (x l h : F) : F := mnF (mxF x l) h
def kEnd (f : F → F → F → F) : List SV → Dec → Option (SV × Dec × Obs)
  | [.fl x, .fl l, .fl h], ds => some (.fl (f x l h), ds, [(decide (l.k ≤ h.k), true)])
  | _, _ => none
def kKept (f : F → F → F → F) : List SV → Dec → Option (SV × Dec × Obs)
  | [.agg [.fl a, .fl b], .fl l, .fl h], ds => some (.agg [.fl (f a l h), .fl (f b l h)], ds, [(decide (l.k ≤ h.k), true)])
  | _, _ => none
theorem endRun1 (x l h : F) : valR ((run Tryz.prog EH OQ0 60).1 126 [.fl x, .fl l, .fl h] [] (some [true])) = some (.fl l, some [], [(decide (x.k < l.k), true)]) := by kernel_rfl
theorem endRun2 (x l h : F) (d : Bool) : valR ((run Tryz.prog EH OQ0 60).1 126 [.fl x, .fl l, .fl h] [] (some [false, d])) = some (.fl (bif d then h else x), some [], [(decide (h.k < x.k), d), (decide (x.k < l.k), false)]) := by cases d <;> kernel_rfl
theorem endK : PlainOk Tryz.prog 126 (kEnd endF) := by
  intro args ds y ds' ob h1 ho
  unfold kEnd at h1
  split at h1
  · rename_i x l h
    simp only [Option.some.injEq, Prod.mk.injEq] at h1
    obtain ⟨rfl, _, rfl⟩ := h1
    have hl := of_decide_eq_true (ho _ (List.mem_cons_self ..))
    refine ⟨[.float .f64 x.b, .float .f64 l.b, .float .f64 h.b], _, rfl, rfl, fun w => ?_⟩
    cases g1 : decide (x.k < l.k)
    · have e : endF x l h = bif decide (h.k < x.k) then h else x := by
        have := of_decide_eq_false g1
        apply F.ext'
        unfold endF
        rw [mnF_k, mxF_k]
        cases g2 : decide (h.k < x.k)
        · have := of_decide_eq_false g2; show _ = x.k; omega
        · have := of_decide_eq_true g2; show _ = h.k; omega
      rw [e]
      exact calls_of_val goodH oracleQ0 60 (endRun2 x l h _) (ObsOk.of_B (obsB_yes rfl (obsB_yes g1 obsB_nil))) rfl rfl w
    · have e : endF x l h = l := by
        have := of_decide_eq_true g1
        apply F.ext'
        unfold endF
        rw [mnF_k, mxF_k]
        omega
      rw [e]
      exact calls_of_val goodH oracleQ0 60 (endRun1 x l h) (ObsOk.of_B (obsB_yes g1 obsB_nil)) rfl rfl w
  · cases h1
def OKe (f : F → F → F → F) : OracleF := lookO [(126, plainO (kEnd f))]
theorem oracleKe : OracleOk Tryz.prog (OKe endF) := .cons endK.of (.nil _)
theorem keptRun (f : F → F → F → F) (a b l h : F) : valR ((run Tryz.prog EH (OKe f) 60).1 48 [.agg [.fl a, .fl b], .fl l, .fl h] [] (some [])) = some (.agg [.fl (f a l h), .fl (f b l h)], some [], [(decide (l.k ≤ h.k), true), (decide (l.k ≤ h.k), true)]) := by kernel_rfl
theorem keptK : PlainOk Tryz.prog 48 (kKept endF) := by
  intro args ds y ds' ob h1 ho
  unfold kKept at h1
  split at h1
  · rename_i a b l h
    simp only [Option.some.injEq, Prod.mk.injEq] at h1
    obtain ⟨rfl, _, rfl⟩ := h1
    have hl := ho _ (List.mem_cons_self ..)
    exact ⟨[.agg #[.float .f64 a.b, .float .f64 b.b], .float .f64 l.b, .float .f64 h.b], _, rfl, rfl, fun w => calls_of_val goodH oracleKe 60 (keptRun endF a b l h) (ObsOk.of_B (obsB_yes hl (obsB_yes hl obsB_nil))) rfl rfl w⟩
  · cases h1
end Go.Proofs.YtmhhopfffeijnaaGreat
namespace Bu
set_option linter.all false
open Rx Go

def eO (N : Kq) (a : Int) : I × Int := N.num (dR N a).2 one64
def eD (N : Kq) (a : Int) : I × Int := N.sub (eO N a).2 (eO N a).1 (N.uo a)
def eN (N : Kq) (a : Int) : I × Int := N.num (eD N a).2 (toF 0)
def eM (N : Kq) (a : Int) : I × Int := N.max (eN N a).2 (eD N a).1 (eN N a).1
def eZ (N : Kq) (a : Int) : I × Int := N.sqrt (eM N a).2 (eM N a).1
def eX (N : Kq) (a b : Int) : I × Int := N.mul (eZ N a).2 (dR N a).1 (N.co (N.uo b))
end Bu
namespace Go.Proofs.YtmhhopfffeijnaaGreat
set_option linter.all false
open Go.RowKit Bu Rx

def kl (l h : F) : Bool × Bool := (decide (l.k ≤ h.k), true)
theorem kl_ok : (kl (toF 0) one64).1 = true ∧ (kl mone64 one64).1 = true := by decide +kernel
theorem rrtK2 : PlainOk Tryz.prog 28 (kBI rt) := rrtG
end Go.Proofs.YtmhhopfffeijnaaGreat
namespace Go.Proofs.YtmhhopfffeijnaaGreat
set_option linter.all false
open Go.RowKit Bu Rx

theorem rrwRun0 (a b : Nat) : valR ((run Tryz.prog EH OQR 60).1 28 [.agg [.f a, .f b]] [] (some [false])) = some (.b false, some [], [(Nat.blt a 18446744073709551616, true), (rightB a, false)]) := by kernel_rfl
theorem rrwRun1 (a b : Nat) : valR ((run Tryz.prog EH OQR 60).1 28 [.agg [.f a, .f b]] [] (some [true, false])) = some (.b false, some [], [(Nat.blt b 18446744073709551616, true), (rightB b, false), (rightB a, true)]) := by kernel_rfl
theorem rrightWG : PlainOk Tryz.prog 28 (kRtW rtW) := by
  intro args ds x ds' ob h ho
  unfold kRtW at h
  split at h
  · rename_i a b
    simp only [Option.map_eq_some_iff, Prod.mk.injEq] at h
    obtain ⟨⟨d, e, o⟩, h1, rfl, rfl, rfl⟩ := h
    have la : Nat.blt a 18446744073709551616 = true := ho _ (List.mem_cons_self ..)
    have lb : Nat.blt b 18446744073709551616 = true := ho (_, true) (List.mem_cons_of_mem _ (List.mem_cons_self ..))
    have hd : d = rtW a b := takeB_ok h1 (fun p hp => ho p (List.mem_cons_of_mem _ (List.mem_cons_of_mem _ hp)))
    refine ⟨[.agg #[.float .f64 a, .float .f64 b]], .bool d, rfl, rfl, fun w => ?_⟩
    unfold rtW at hd
    cases g1 : rightB a
    · rw [g1, Bool.false_and] at hd; subst hd
      exact calls_of_val goodH oracleQR 60 (rrwRun0 a b) (ObsOk.of_B (obsB_yes la (obsB_yes g1 obsB_nil))) rfl rfl w
    · cases g2 : rightB b
      · rw [g1, g2, Bool.false_and, Bool.and_false] at hd; subst hd
        exact calls_of_val goodH oracleQR 60 (rrwRun1 a b) (ObsOk.of_B (obsB_yes lb (obsB_yes g2 (obsB_yes g1 obsB_nil)))) rfl rfl w
      · rw [g1, g2, Bool.true_and, Bool.true_and] at hd
        obtain ⟨x, rfl⟩ := F_of_right g1
        obtain ⟨y, rfl⟩ := F_of_right g2
        rw [toF_F, toF_F] at hd
        exact calls_of_val goodH oracleQR 60 (rrtRun x y d) (ObsOk.of_B (obsB_yes hd.symm obsB_nil)) rfl rfl w
  · cases h
end Go.Proofs.YtmhhopfffeijnaaGreat
