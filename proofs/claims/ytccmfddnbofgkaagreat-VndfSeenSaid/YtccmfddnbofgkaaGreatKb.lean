/- Package burnishlow by the reckoner: numbers by parts. -/
import Derived.Test.YtccmfddnbofgkaaGreatHl
import Derived.Test.YtccmfddnbofgkaaGreatKa
namespace Go.Proofs.YtccmfddnbofgkaaGreat
set_option linter.all false
open Go.RowKit Bu Rx

theorem bwRun (a b : F) (n : Int) : valR ((run Tryz.prog EG OIM 80).1 17 [.fl a, .fl b, .si .u32 n] [] (some [false, false])) = some (.fl (bwX a b n), some [], (decide (b.k < (bwX a b n).k), false) :: (decide ((bwX a b n).k < a.k), false) :: bwO a b n) := by kernel_rfl
theorem bwRun1 (a b : F) (n : Int) : valR ((run Tryz.prog EG OIM 80).1 17 [.fl a, .fl b, .si .u32 n] [] (some [true])) = some (.fl a, some [], (decide ((bwX a b n).k < a.k), true) :: bwO a b n) := by kernel_rfl
theorem bwRun2 (a b : F) (n : Int) : valR ((run Tryz.prog EG OIM 80).1 17 [.fl a, .fl b, .si .u32 n] [] (some [false, true])) = some (.fl b, some [], (decide (b.k < (bwX a b n).k), true) :: (decide ((bwX a b n).k < a.k), false) :: bwO a b n) := by kernel_rfl
theorem bwG : PlainOk Tryz.prog 17 (kBw bwF pairB wN32) := by
  intro args ds x ds' ob h ho
  unfold kBw at h
  split at h
  · rename_i a b u
    split at h
    · rename_i n hk
      simp only [Option.some.injEq, Prod.mk.injEq] at h; obtain ⟨rfl, _, rfl⟩ := h
      have hp : pairB a b = true := ho _ (List.mem_cons_self ..)
      have hn : wN32 n = true := ho (_, true) (List.mem_cons_of_mem _ (List.mem_cons_self ..))
      have hO := bw_ok hp hn
      refine ⟨[.float .f64 a.b, .float .f64 b.b, .int .u32 n], .float .f64 (bwF a b n).b, plains_cons rfl (plains_cons rfl (plains_cons (intS_plain hk) plains_nil)), rfl, fun w => ?_⟩
      unfold bwF
      cases h1 : decide ((bwX a b n).k < a.k)
      · cases h2 : decide (b.k < (bwX a b n).k)
        · exact calls_of_val goodG oracleIM 80 (bwRun a b n) (ObsOk.of_B (obsB_yes h2 (obsB_yes h1 hO))) rfl rfl w
        · exact calls_of_val goodG oracleIM 80 (bwRun2 a b n) (ObsOk.of_B (obsB_yes h2 (obsB_yes h1 hO))) rfl rfl w
      · exact calls_of_val goodG oracleIM 80 (bwRun1 a b n) (ObsOk.of_B (obsB_yes h1 hO)) rfl rfl w
    · cases h
  · cases h
theorem ptRun (a : F) : valR ((run Tryz.prog EG OIM 80).1 41 [.fl a] [] (some [])) = some (.agg [.fl (sf (fad a (toF 0))), .fl (sf (fad a (toF 0)))], some [], so (fad a (toF 0)) ++ so (fad a (toF 0))) := by kernel_rfl
theorem ptG : PlainOk Tryz.prog 41 kPt := by
  intro args ds x ds' ob h ho
  unfold kPt at h
  split at h
  · rename_i a
    simp only [Option.some.injEq, Prod.mk.injEq] at h; obtain ⟨rfl, _, rfl⟩ := h
    obtain ⟨o1, o2⟩ := so_ok (fad_zero a)
    refine ⟨[.float .f64 a.b], _, rfl, rfl, fun w => ?_⟩
    have r := ptRun a
    rw [o2] at r
    exact calls_of_val goodG oracleIM 80 r (ObsOk.of_B (ob2 o1 o1)) rfl rfl w
  · cases h
theorem meetsRun0 (a b c d : F) : valR ((run Tryz.prog EG OIM 80).1 28 [.agg [.fl a, .fl b], .agg [.fl c, .fl d]] [] (some [false])) = some (.b false, some [], [(decide (a.k ≤ d.k), false)]) := by kernel_rfl
theorem meetsRun1 (a b c d : F) (h : Bool) : valR ((run Tryz.prog EG OIM 80).1 28 [.agg [.fl a, .fl b], .agg [.fl c, .fl d]] [] (some [true, h])) = some (.b h, some [], [(decide (c.k ≤ b.k), h), (decide (a.k ≤ d.k), true)]) := by cases h <;> kernel_rfl
theorem meetsG : PlainOk Tryz.prog 28 (kBII meetsB) := by
  intro args ds x ds' ob h ho
  unfold kBII at h
  split at h
  · rename_i a b c d
    simp only [Option.map_eq_some_iff, Prod.mk.injEq] at h
    obtain ⟨⟨r, e, o⟩, h1, rfl, rfl, rfl⟩ := h
    have hd : r = meetsB ⟨a, b⟩ ⟨c, d⟩ := takeB_ok h1 ho
    subst hd
    refine ⟨[.agg #[.float .f64 a.b, .float .f64 b.b], .agg #[.float .f64 c.b, .float .f64 d.b]], .bool (meetsB ⟨a, b⟩ ⟨c, d⟩), rfl, rfl, fun w => ?_⟩
    unfold meetsB
    cases h1 : decide (a.k ≤ d.k)
    · exact calls_of_val goodG oracleIM 80 (meetsRun0 a b c d) (ObsOk.of_B (obsB_yes h1 obsB_nil)) rfl rfl w
    · rw [Bool.true_and]
      exact calls_of_val goodG oracleIM 80 (meetsRun1 a b c d _) (ObsOk.of_B (obsB_yes rfl (obsB_yes h1 obsB_nil))) rfl rfl w
  · cases h
end Go.Proofs.YtccmfddnbofgkaaGreat
