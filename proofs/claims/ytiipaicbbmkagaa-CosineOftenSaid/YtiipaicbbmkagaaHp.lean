/- CosineOften, by the reckoner. -/
import Derived.Test.YtiipaicbbmkagaaHm
import Derived.Test.YtiipaicbbmkagaaIo
namespace Go.Proofs.Ytiipaicbbmkagaa
set_option linter.all false
open Go.RowKit Bu Rx

def kFr (f : Int → F) (u : Int → Bool) : List SV → Dec → Option (SV × Dec × Obs)
  | [x], ds => match intS x with
    | some (.u32, n) => some (.fl (f n), ds, [(u n, true)])
    | _ => none
  | _, _ => none
theorem frRun (n : Int) : valR ((run Try.prog EG OIM 80).1 40 [.si .u32 n] [] (some [])) = some (.f (fracW n), some [], [((Ieee.double.div (FloatKind.f64.nearest n) c32.b).isSome, true)]) := by kernel_rfl
theorem fracG : PlainOk Try.prog 40 (kFr fracF w32) := by
  intro args ds x ds' ob h ho
  unfold kFr at h
  split at h
  · rename_i u
    split at h
    · rename_i n hk
      simp only [Option.some.injEq, Prod.mk.injEq] at h; obtain ⟨rfl, _, rfl⟩ := h
      have hn := of_decide_eq_true (ho _ (List.mem_cons_self ..))
      obtain ⟨h1, h2, _, _⟩ := frac_ok hn.1 hn.2
      refine ⟨[.int .u32 n], .float .f64 (fracF n).b, plains_cons (intS_plain hk) plains_nil, rfl, fun w => ?_⟩
      rw [h2]
      exact calls_of_val goodG oracleIM 80 (frRun n) (ObsOk.of_B (obsB_yes h1 obsB_nil)) rfl rfl w
    · cases h
  · cases h
def adZ (s : Option Nat) : Obs := [(s.isSome, true), (rightB (s.getD 0), true)]
theorem ptRun (t : F) : valR ((run Try.prog EG OIM 80).1 42 [.fl t] [] (some [])) = some (.agg [.fl (toF ((Ieee.double.add t.b (toF 0).b).getD 0)), .fl (toF ((Ieee.double.add t.b (toF 0).b).getD 0))], some [], adZ (Ieee.double.add t.b (toF 0).b) ++ adZ (Ieee.double.add t.b (toF 0).b)) := by kernel_rfl
def kPt : List SV → Dec → Option (SV × Dec × Obs)
  | [.fl t], ds => some (.agg [.fl t, .fl t], ds, [])
  | _, _ => none
theorem pointG : PlainOk Try.prog 42 kPt := by
  intro args ds x ds' ob h ho
  unfold kPt at h
  split at h
  · rename_i t
    simp only [Option.some.injEq, Prod.mk.injEq] at h
    obtain ⟨rfl, _, _⟩ := h
    refine ⟨[.float .f64 t.b], _, rfl, rfl, fun w => ?_⟩
    have hr := ptRun t
    rw [add_zero_F, Option.getD_some, toF_F] at hr
    exact calls_of_val goodG oracleIM 80 hr (ObsOk.of_B (obsB_both (obsB_yes rfl (obsB_yes (right_F t) obsB_nil)) (obsB_yes rfl (obsB_yes (right_F t) obsB_nil)))) rfl rfl w
  · cases h
def OCO (N : Ko) : OracleF := lookO [(34, plainO (kDraw N.dv N.u)), (35, plainO (kOf N.uo N.u)), (40, plainO (kFr N.fr N.w)), (42, plainO kPt), (26, plainO (kBI N.rt)), (37, plainO (oConst (.b true))), (29, kC (aII N.mul)), (30, kC (aII N.sub)), (28, kC (aF N.num)), (25, kC (aI N.sqr))]
theorem oracleCO : OracleOk Try.prog (OCO KoR) := .cons drawG.of (.cons unitG.of (.cons fracG.of (.cons pointG.of (.cons irtK2.of (.cons awake12G.of (.cons mulC (.cons subC (.cons numC (.cons sqrC (.nil _))))))))))
theorem coRun (N : Ko) (a b c : Int) (p1 p2 : Bool) : valR ((run Try.prog EG (OCO N) 80).1 10 [.si .u64 a, .si .u64 b, .si .u32 c] [] (some ([true, true, false, false, false, false, false, false] ++ (p1 :: (bif p1 then [] else [true])) ++ (p2 :: (bif p2 then [] else [true]))))) = some (.b true, some [], coOb N a b c p1 p2) := by
  cases p1 <;> cases p2 <;> kernel_rfl
theorem u32_in {a : Int} (h : (Lit.int .u32 a).wf = true) : 0 ≤ a ∧ a ≤ 4294967295 := by
  simpa [Lit.wf, IntKind.min, IntKind.max, IntKind.signed, IntKind.bits] using h
theorem cosineOften_row (a b c : Int) (ha : (Lit.int .u64 a).wf = true) (hb : (Lit.int .u64 b).wf = true) (hc : (Lit.int .u32 c).wf = true) (w : World) :
    Calls Try.prog 10 #[.int .u64 a, .int .u64 b, .int .u32 c] w fun e w' => e = .returned (.bool true) ∧ Below w.heap.size w w' := by
  have ga := u64_in ha
  have gb := u64_in hb
  have gc := u32_in hc
  exact calls_of_val goodG oracleCO 80 (coRun KoR a b c _ _) (ObsOk.of_B (coOb_ok ga.1 ga.2 gb.1 gb.2 gc.1 gc.2)) rfl rfl w
end Go.Proofs.Ytiipaicbbmkagaa
