/- Package cosine by the reckoner: Mid; the examples of layer 12; CosineFalls. The examples of layer 12; CosineFalls, by the reckoner. CosineMid, by the reckoner. -/
import Derived.Test.YtmhhopfffeijnaaGreatZ13
import Derived.Test.YtmhhopfffeijnaaGreatZ07
import Derived.Test.YtmhhopfffeijnaaGreatZ27
namespace Go.Proofs.YtmhhopfffeijnaaGreat
set_option linter.all false
open Go.RowKit Bu Rx

def m1 (fs : Bool → F → F → F × Int) (a b : F) : F × Int := fs false b a
def m2 (fs fm : Bool → F → F → F × Int) (a b : F) : F × Int := fm false q2 (m1 fs a b).1
def m3 (fs fm fa : Bool → F → F → F × Int) (a b : F) : F × Int := fa false a (m2 fs fm a b).1
end Go.Proofs.YtmhhopfffeijnaaGreat
namespace Go.Proofs.YtmhhopfffeijnaaGreat
set_option linter.all false
open Go.RowKit Bu Rx

end Go.Proofs.YtmhhopfffeijnaaGreat
namespace Go.Proofs.YtmhhopfffeijnaaGreat
set_option linter.all false
open Go.RowKit Bu Rx

/-- of any two words -/
def rtW (a b : Nat) : Bool := rightB a && (rightB b && decide ((toF a).k ≤ (toF b).k))
def kRtW (r : Nat → Nat → Bool) : List SV → Dec → Option (SV × Dec × Obs)
  | [.agg [.f a, .f b]], ds => (takeB ds (r a b)).map fun q => (.b q.1, q.2.1, (Nat.blt a 18446744073709551616, true) :: (Nat.blt b 18446744073709551616, true) :: q.2.2)
  | _, _ => none
theorem rwRun0 (a b : Nat) : valR ((run Tryz.prog EG OIR 60).1 23 [.agg [.f a, .f b]] [] (some [false])) = some (.b false, some [], [(Nat.blt a 18446744073709551616, true), (rightB a, false)]) := by kernel_rfl
theorem rwRun1 (a b : Nat) : valR ((run Tryz.prog EG OIR 60).1 23 [.agg [.f a, .f b]] [] (some [true, false])) = some (.b false, some [], [(Nat.blt b 18446744073709551616, true), (rightB b, false), (rightB a, true)]) := by kernel_rfl
theorem rightWG : PlainOk Tryz.prog 23 (kRtW rtW) := by
  intro args ds x ds' ob h ho
  unfold kRtW at h
  split at h
  · rename_i a b
    simp only [Option.map_eq_some_iff, Prod.mk.injEq] at h
    obtain ⟨⟨d, e, o⟩, h1, rfl, rfl, rfl⟩ := h
    have la : Nat.blt a 18446744073709551616 = true := ho _ (List.mem_cons_self ..)
    have lb : Nat.blt b 18446744073709551616 = true := ho (_, true) (List.mem_cons_of_mem _ (List.mem_cons_self ..))
    have hd : d = rtW a b := takeB_ok h1 (fun p hp => ho p (List.mem_cons_of_mem _ (List.mem_cons_of_mem _ hp)))
    refine ⟨[.agg #[.float .f64 a, .float .f64 b]], .bool d, rfl, rfl, fun w => ?_⟩
    unfold rtW at hd
    cases g1 : rightB a
    · rw [g1, Bool.false_and] at hd; subst hd
      exact calls_of_val goodG oracleIR 60 (rwRun0 a b) (ObsOk.of_B (obsB_yes la (obsB_yes g1 obsB_nil))) rfl rfl w
    · cases g2 : rightB b
      · rw [g1, g2, Bool.false_and, Bool.and_false] at hd; subst hd
        exact calls_of_val goodG oracleIR 60 (rwRun1 a b) (ObsOk.of_B (obsB_yes lb (obsB_yes g2 (obsB_yes g1 obsB_nil)))) rfl rfl w
      · rw [g1, g2, Bool.true_and, Bool.true_and] at hd
        obtain ⟨x, rfl⟩ := F_of_right g1
        obtain ⟨y, rfl⟩ := F_of_right g2
        rw [toF_F, toF_F] at hd
        exact calls_of_val goodG oracleIR 60 (irightRun x y d) (ObsOk.of_B (obsB_yes hd.symm obsB_nil)) rfl rfl w
  · cases h
end Go.Proofs.YtmhhopfffeijnaaGreat
