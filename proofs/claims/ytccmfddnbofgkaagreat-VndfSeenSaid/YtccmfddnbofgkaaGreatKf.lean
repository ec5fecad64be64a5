/- Packages vec, ggx, vndf by the reckoner: Unit, D, G1, Facing, Draw, Density. -/
import Derived.Test.YtccmfddnbofgkaaGreatKd
import Derived.Test.YtccmfddnbofgkaaGreatKe
namespace Go.Proofs.YtccmfddnbofgkaaGreat
set_option linter.all false
open Go.RowKit Bu Rx

def ivS (a : I) : SV := .agg [.fl a.lo, .fl a.hi]
theorem unRun (K : Kk) (x y z : F) : valR ((run Tryz.prog EG (lookO (OCL K)) 80).1 52 [.agg [.fl x, .fl y, .fl z]] [] (some [false, false])) = some (.tup [(unV K x y z).sv, .i .i64 0], some [], [(decide (huge64.k < (mostF x y z).k), false), (decide ((mostF x y z).k < tiny64.k), false)]) := by kernel_rfl
theorem unRun1 (K : Kk) (x y z : F) : valR ((run Tryz.prog EG (lookO (OCL K)) 80).1 52 [.agg [.fl x, .fl y, .fl z]] [] (some [true])) = some (.tup [V3.zero.sv, .i .i64 50], some [], [(decide ((mostF x y z).k < tiny64.k), true)]) := by kernel_rfl
theorem unRun2 (K : Kk) (x y z : F) : valR ((run Tryz.prog EG (lookO (OCL K)) 80).1 52 [.agg [.fl x, .fl y, .fl z]] [] (some [false, true])) = some (.tup [V3.zero.sv, .i .i64 50], some [], [(decide (huge64.k < (mostF x y z).k), true), (decide ((mostF x y z).k < tiny64.k), false)]) := by kernel_rfl
theorem ggDRun (K : Kk) (c al : I) : valR ((run Tryz.prog EG (lookO (OCL K)) 80).1 72 [ivS c, ivS al] [] (some [true, true, true, true, true, true, false])) = some (.tup [ivS (gt (ggE K ggD c al).1 0), .i .i64 0], some [], (neB (ggE K ggD c al).2, false) :: ggO c al) := by kernel_rfl
theorem ggDRun1 (K : Kk) (c al : I) : valR ((run Tryz.prog EG (lookO (OCL K)) 80).1 72 [ivS c, ivS al] [] (some [true, true, true, true, true, true, true])) = some (.tup [ivS I.zero, .si .i64 (ggE K ggD c al).2], some [], (neB (ggE K ggD c al).2, true) :: ggO c al) := by kernel_rfl
theorem gg1Run (K : Kk) (c al : I) : valR ((run Tryz.prog EG (lookO (OCL K)) 80).1 71 [ivS c, ivS al] [] (some [true, true, true, true, true, true, false])) = some (.tup [ivS (gt (ggE K gg1 c al).1 0), .i .i64 0], some [], (neB (ggE K gg1 c al).2, false) :: ggO c al) := by kernel_rfl
theorem gg1Run1 (K : Kk) (c al : I) : valR ((run Tryz.prog EG (lookO (OCL K)) 80).1 71 [ivS c, ivS al] [] (some [true, true, true, true, true, true, true])) = some (.tup [ivS I.zero, .si .i64 (ggE K gg1 c al).2], some [], (neB (ggE K gg1 c al).2, true) :: ggO c al) := by kernel_rfl
theorem flow_I (r : I) : (⟨r.lo, r.hi⟩ : I) = r := rfl
theorem neB_0 {e : Int} (h : neB e = false) : e = 0 := by unfold neB at h; simpa using h
/-- the known function of a ggx formula -/
theorem gg_known {g : FuncId} {p : List Bu.Op}
    (h0 : ∀ (K : Kk) (c al : I), valR ((run Tryz.prog EG (lookO (OCL K)) 80).1 g [ivS c, ivS al] [] (some [true, true, true, true, true, true, false])) = some (.tup [ivS (gt (ggE K p c al).1 0), .i .i64 0], some [], (neB (ggE K p c al).2, false) :: ggO c al))
    (h1 : ∀ (K : Kk) (c al : I), valR ((run Tryz.prog EG (lookO (OCL K)) 80).1 g [ivS c, ivS al] [] (some [true, true, true, true, true, true, true])) = some (.tup [ivS I.zero, .si .i64 (ggE K p c al).2], some [], (neB (ggE K p c al).2, true) :: ggO c al)) : PlainOk Tryz.prog g (kGg (ggR KkR p)) := by
  intro args ds x ds' ob h ho
  unfold kGg at h
  split at h
  · rename_i a b c d
    simp only [Option.some.injEq, Prod.mk.injEq] at h
    obtain ⟨rfl, _, rfl⟩ := h
    refine ⟨[.agg #[.float .f64 a.b, .float .f64 b.b], .agg #[.float .f64 c.b, .float .f64 d.b]], _, rfl, rfl, fun w => ?_⟩
    unfold ggR
    cases k : neB (ggE KkR p ⟨a, b⟩ ⟨c, d⟩).2
    · have r := h0 KkR ⟨a, b⟩ ⟨c, d⟩
      exact calls_of_val goodG oracleCL 80 r (fun q hq => by
        rcases List.mem_cons.1 hq with rfl | hq
        · exact k
        · exact ho q hq) rfl rfl w
    · have r := h1 KkR ⟨a, b⟩ ⟨c, d⟩
      exact calls_of_val goodG oracleCL 80 r (fun q hq => by
        rcases List.mem_cons.1 hq with rfl | hq
        · exact k
        · exact ho q hq) rfl rfl w
  · cases h
theorem ggDG : PlainOk Tryz.prog 72 (kGg (ggR KkR ggD)) := gg_known ggDRun ggDRun1
theorem gg1G : PlainOk Tryz.prog 71 (kGg (ggR KkR gg1)) := gg_known gg1Run gg1Run1
theorem unG : PlainOk Tryz.prog 52 (kUn (unV KkR) unB) := by
  intro args ds x ds' ob h ho
  unfold kUn at h
  split at h
  · rename_i x y z
    simp only [Option.map_eq_some_iff, Prod.mk.injEq] at h
    obtain ⟨⟨r, e, o⟩, h1, rfl, rfl, rfl⟩ := h
    have hd : r = unB x y z := takeB_ok h1 ho
    subst hd
    unfold unB
    cases k1 : decide ((mostF x y z).k < tiny64.k)
    · cases k2 : decide (huge64.k < (mostF x y z).k)
      · exact ⟨[.agg #[.float .f64 x.b, .float .f64 y.b, .float .f64 z.b]], _, rfl, rfl, fun w => calls_of_val goodG oracleCL 80 (unRun KkR x y z) (ObsOk.of_B (obsB_yes k2 (obsB_yes k1 obsB_nil))) rfl rfl w⟩
      · exact ⟨[.agg #[.float .f64 x.b, .float .f64 y.b, .float .f64 z.b]], _, rfl, rfl, fun w => calls_of_val goodG oracleCL 80 (unRun2 KkR x y z) (ObsOk.of_B (obsB_yes k2 (obsB_yes k1 obsB_nil))) rfl rfl w⟩
    · exact ⟨[.agg #[.float .f64 x.b, .float .f64 y.b, .float .f64 z.b]], _, rfl, rfl, fun w => calls_of_val goodG oracleCL 80 (unRun1 KkR x y z) (ObsOk.of_B (obsB_yes k1 obsB_nil)) rfl rfl w⟩
  · cases h
end Go.Proofs.YtccmfddnbofgkaaGreat
