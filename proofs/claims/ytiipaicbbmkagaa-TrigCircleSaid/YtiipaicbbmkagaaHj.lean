/- TrigCircle, by the reckoner. -/
import Derived.Test.YtiipaicbbmkagaaHh
import Derived.Test.YtiipaicbbmkagaaIg
namespace Go.Proofs.Ytiipaicbbmkagaa
set_option linter.all false
open Go.RowKit Bu Rx

theorem ldexpK : PlainOk Try.prog 17 (kLd ldF fun x n => decide (Sc x (ldF x n) n)) := by
  intro args ds x ds' ob h ho
  unfold kLd at h
  split at h
  · rename_i x n
    split at h
    · rename_i k hk
      simp only [Option.some.injEq, Prod.mk.injEq] at h; obtain ⟨rfl, _, rfl⟩ := h
      have hs := of_decide_eq_true (ho _ (List.mem_cons_self ..))
      refine ⟨[.float .f64 x.b, .int .i64 k], .float .f64 (ldF x k).b, plains_cons rfl (plains_cons (intS_plain hk) plains_nil), rfl, fun w => (Ldexp_exact x (ldF x k) k w hs).mono ?_⟩
      rintro e w' ⟨rfl, rfl⟩; exact ⟨rfl, Below.refl _ _⟩
    · cases h
  · cases h
def OWI (f : Bool → F → F → F × Int) : OracleF := lookO [(26, plainO oRt), (43, plainO (kTwo f))]
theorem oracleWI : OracleOk Try.prog (OWI dSub) := .cons irightG.of (.cons (two_ok sub_F_w).of (.nil _))
theorem widRun0 (f : Bool → F → F → F × Int) (a b : F) : valR ((run Try.prog EG (OWI f) 60).1 27 [.agg [.fl a, .fl b]] [] (some [false])) = some (.tup [.fl F.zero, .i .i64 20], some [], [(rt ⟨a, b⟩, false)]) := by kernel_rfl
theorem widRun1 (f : Bool → F → F → F × Int) (a b : F) : valR ((run Try.prog EG (OWI f) 60).1 27 [.agg [.fl a, .fl b]] [] (some [true])) = some (.tup [.fl (f true b a).1, .si .i64 (f true b a).2], some [], [(rt ⟨a, b⟩, true)]) := by kernel_rfl
theorem widK : PlainOk Try.prog 27 (kWid widM) := by
  intro args ds x ds' ob h ho
  unfold kWid at h
  split at h
  · rename_i a b
    simp only [Option.some.injEq, Prod.mk.injEq] at h
    obtain ⟨rfl, _, _⟩ := h
    refine ⟨[.agg #[.float .f64 a.b, .float .f64 b.b]], _, rfl, rfl, fun w => ?_⟩
    cases h1 : rt ⟨a, b⟩
    · rw [show widM ⟨a, b⟩ = (F.zero, 20) from by simp only [widM, h1, cond_false]]
      exact calls_of_val goodG oracleWI 60 (widRun0 dSub a b) (ObsOk.of_B (obsB_yes h1 obsB_nil)) rfl rfl w
    · rw [show widM ⟨a, b⟩ = dSub true b a from by simp only [widM, h1, cond_true]]
      exact calls_of_val goodG oracleWI 60 (widRun1 dSub a b) (ObsOk.of_B (obsB_yes h1 obsB_nil)) rfl rfl w
  · cases h
theorem irtK : PlainOk Try.prog 26 (kBI rt) := irightG
def OTC (N : Nc) : OracleF := lookO [(14, plainO (kSC N.ib N.si N.co)), (22, plainO (kBII N.sa)), (11, plainO (kBI N.ib)), (12, plainO (oConst (.b true))), (21, plainO (kBIF N.ha)), (26, plainO (kBI N.rt)), (24, kC (aII N.add)), (25, kC (aI N.sqr)), (27, plainO (kWid N.wid)), (17, plainO (kLd N.ld N.lo))]
theorem oracleTC : OracleOk Try.prog (OTC (NcR atR)) := .cons scK.of (.cons sameK.of (.cons fineK.of (.cons awakeG.of (.cons ihasK.of (.cons irtK.of (.cons addC (.cons sqrC (.cons widK.of (.cons ldexpK.of (.nil _))))))))))
def OTD (s : I → I → Bool) : OracleF := lookO [(22, plainO (kBII s)), (12, plainO (oConst (.b true))), (60, plainO oRight)]
theorem oracleTD : OracleOk Try.prog (OTD sameI) := .cons sameK.of (.cons awakeG.of (.cons rightG.of (.nil _)))
theorem tcRun (N : Nc) (a b : F) : valR ((run Try.prog EG (OTC N) 60).1 5 [.agg [.fl a, .fl b]] [] (some [true, true, false, true, true, false, false, false, false, true, true, true, true, true])) = some (.b true, some [], tcOb N a b) := by kernel_rfl
theorem tcRun0 (N : Nc) (a b : F) : valR ((run Try.prog EG (OTC N) 60).1 5 [.agg [.fl a, .fl b]] [] (some [false, false, true, true])) = some (.b true, some [], [(N.sa I.zero I.zero, true), (N.sa I.zero I.zero, true), (N.ib ⟨a, b⟩, false), (N.ib ⟨a, b⟩, false)]) := by kernel_rfl
theorem tcRun1 (s : I → I → Bool) (a b : Nat) : valR ((run Try.prog EG (OTD s) 60).1 5 [.agg [.f a, .f b]] [] (some [false, false, true, true])) = some (.b true, some [], [(s I.zero I.zero, true), (s I.zero I.zero, true), (Nat.blt a 18446744073709551616, true), (rightB a, false), (Nat.blt a 18446744073709551616, true), (rightB a, false)]) := by kernel_rfl
theorem tcRun2 (s : I → I → Bool) (a b : Nat) : valR ((run Try.prog EG (OTD s) 60).1 5 [.agg [.f a, .f b]] [] (some [true, false, true, false, true, true])) = some (.b true, some [], [(s I.zero I.zero, true), (s I.zero I.zero, true), (Nat.blt b 18446744073709551616, true), (rightB b, false), (rightB a, true), (Nat.blt b 18446744073709551616, true), (rightB b, false), (rightB a, true)]) := by kernel_rfl
theorem same0 : sameI I.zero I.zero = true := (sameI_iff _ _).2 rfl
theorem trigCircle_row (a b : Nat) (ha : a < 18446744073709551616) (hb : b < 18446744073709551616) (w : World) :
    Calls Try.prog 5 #[.agg #[.float .f64 a, .float .f64 b]] w fun e w' => e = .returned (.bool true) ∧ Below w.heap.size w w' := by
  have la := Nat.blt_eq.mpr ha
  have lb := Nat.blt_eq.mpr hb
  cases h1 : rightB a
  · exact calls_of_val goodG oracleTD 60 (tcRun1 sameI a b) (ObsOk.of_B (obsB_yes same0 (obsB_yes same0 (obsB_yes la (obsB_yes h1 (obsB_yes la (obsB_yes h1 obsB_nil))))))) rfl rfl w
  · cases h2 : rightB b
    · exact calls_of_val goodG oracleTD 60 (tcRun2 sameI a b) (ObsOk.of_B (obsB_yes same0 (obsB_yes same0 (obsB_yes lb (obsB_yes h2 (obsB_yes h1 (obsB_yes lb (obsB_yes h2 (obsB_yes h1 obsB_nil))))))))) rfl rfl w
    · obtain ⟨x, rfl⟩ := F_of_right h1
      obtain ⟨y, rfl⟩ := F_of_right h2
      cases h : inB x y
      · exact calls_of_val goodG oracleTC 60 (tcRun0 (NcR atR) x y) (ObsOk.of_B (obsB_yes same0 (obsB_yes same0 (obsB_yes h (obsB_yes h obsB_nil))))) rfl rfl w
      · exact calls_of_val goodG oracleTC 60 (tcRun (NcR atR) x y) (ObsOk.of_B (tcOb_ok h)) rfl rfl w
end Go.Proofs.Ytiipaicbbmkagaa
