/- Package burnishlow by the reckoner: numbers by parts. Packages vec, ggx, vndf by the reckoner. Packages vec, ggx, vndf by the reckoner: Unit, D, G1, Facing, Draw, Density. -/
import Derived.Test.YtmhhopfffeijnaaGreatZ13
import Derived.Test.YtmhhopfffeijnaaGreatZ15
import Derived.Test.YtmhhopfffeijnaaGreatZ16
namespace Go.Proofs.YtmhhopfffeijnaaGreat
set_option linter.all false
open Go.RowKit Bu Rx

theorem bwRun (a b : F) (n : Int) : valR ((run Tryz.prog EG OIM 80).1 61 [.fl a, .fl b, .si .u32 n] [] (some [false, false])) = some (.fl (bwX a b n), some [], (decide (b.k < (bwX a b n).k), false) :: (decide ((bwX a b n).k < a.k), false) :: bwO a b n) := by kernel_rfl
theorem bwRun1 (a b : F) (n : Int) : valR ((run Tryz.prog EG OIM 80).1 61 [.fl a, .fl b, .si .u32 n] [] (some [true])) = some (.fl a, some [], (decide ((bwX a b n).k < a.k), true) :: bwO a b n) := by kernel_rfl
theorem bwRun2 (a b : F) (n : Int) : valR ((run Tryz.prog EG OIM 80).1 61 [.fl a, .fl b, .si .u32 n] [] (some [false, true])) = some (.fl b, some [], (decide (b.k < (bwX a b n).k), true) :: (decide ((bwX a b n).k < a.k), false) :: bwO a b n) := by kernel_rfl
theorem bwG : PlainOk Tryz.prog 61 (kBw bwF pairB wN32) := by
  intro args ds x ds' ob h ho
  unfold kBw at h
  split at h
  · rename_i a b u
    split at h
    · rename_i n hk
      simp only [Option.some.injEq, Prod.mk.injEq] at h; obtain ⟨rfl, _, rfl⟩ := h
      have hp : pairB a b = true := ho _ (List.mem_cons_self ..)
      have hn : wN32 n = true := ho (_, true) (List.mem_cons_of_mem _ (List.mem_cons_self ..))
      have hO := bw_ok hp hn
      refine ⟨[.float .f64 a.b, .float .f64 b.b, .int .u32 n], .float .f64 (bwF a b n).b, plains_cons rfl (plains_cons rfl (plains_cons (intS_plain hk) plains_nil)), rfl, fun w => ?_⟩
      unfold bwF
      cases h1 : decide ((bwX a b n).k < a.k)
      · cases h2 : decide (b.k < (bwX a b n).k)
        · exact calls_of_val goodG oracleIM 80 (bwRun a b n) (ObsOk.of_B (obsB_yes h2 (obsB_yes h1 hO))) rfl rfl w
        · exact calls_of_val goodG oracleIM 80 (bwRun2 a b n) (ObsOk.of_B (obsB_yes h2 (obsB_yes h1 hO))) rfl rfl w
      · exact calls_of_val goodG oracleIM 80 (bwRun1 a b n) (ObsOk.of_B (obsB_yes h1 hO)) rfl rfl w
    · cases h
  · cases h
theorem ptRun (a : F) : valR ((run Tryz.prog EG OIM 80).1 56 [.fl a] [] (some [])) = some (.agg [.fl (sf (fad a (toF 0))), .fl (sf (fad a (toF 0)))], some [], so (fad a (toF 0)) ++ so (fad a (toF 0))) := by kernel_rfl
theorem ptG : PlainOk Tryz.prog 56 kPt := by
  intro args ds x ds' ob h ho
  unfold kPt at h
  split at h
  · rename_i a
    simp only [Option.some.injEq, Prod.mk.injEq] at h; obtain ⟨rfl, _, rfl⟩ := h
    obtain ⟨o1, o2⟩ := so_ok (fad_zero a)
    refine ⟨[.float .f64 a.b], _, rfl, rfl, fun w => ?_⟩
    have r := ptRun a
    rw [o2] at r
    exact calls_of_val goodG oracleIM 80 r (ObsOk.of_B (ob2 o1 o1)) rfl rfl w
  · cases h
end Go.Proofs.YtmhhopfffeijnaaGreat
namespace Go.Proofs.YtmhhopfffeijnaaGreat
set_option linter.all false
open Go.RowKit Bu Rx

def OCL (K : Kk) : List (Nat × OF) := [(68, kC (aII K.add)), (40, kC (aII K.sub)), (38, kC (aII K.mul)), (84, kC (aII K.div)), (39, kC (aII K.max)), (69, kC (aI K.sqr)), (36, kC (aI K.sqrt)), (143, kC (aI K.neg)), (41, kC (aF K.num)), (23, plainO (kBI rt)), (90, plainO oRight), (136, plainO kAbs), (140, plainO (oI1 withI)), (93, plainO (oConst (.agg [.fl PIc.lo, .fl PIc.hi])))]
theorem absG : PlainOk Tryz.prog 136 kAbs := by
  intro args ds x ds' ob h ho
  unfold kAbs at h
  split at h
  · rename_i x
    simp only [Option.some.injEq, Prod.mk.injEq] at h
    obtain ⟨rfl, _, _⟩ := h
    exact ⟨[.float .f64 x.b], _, rfl, rfl, fun w => (abs_F x w).mono fun e w' ⟨h1, h2⟩ => ⟨h1, h2 ▸ Below.refl _ _⟩⟩
  · cases h
theorem vwRun0 (a b : F) : valR ((run Tryz.prog EG OIM 60).1 140 [.agg [.fl a, .fl b]] [] (some [true])) = some (.agg [.fl F.zero, .fl F.zero], some [], [(decide ((mnF b one64).k < (mxF a mone64).k), true)]) := by kernel_rfl
theorem vwRun1 (a b : F) : valR ((run Tryz.prog EG OIM 60).1 140 [.agg [.fl a, .fl b]] [] (some [false])) = some (.agg [.fl (mxF a mone64), .fl (mnF b one64)], some [], [(decide ((mnF b one64).k < (mxF a mone64).k), false)]) := by kernel_rfl
theorem vwG : PlainOk Tryz.prog 140 (oI1 withI) := by
  intro args ds x ds' ob h ho
  unfold oI1 at h
  split at h
  · rename_i a b
    simp only [Option.some.injEq, Prod.mk.injEq] at h
    obtain ⟨rfl, _, _⟩ := h
    refine ⟨[.agg #[.float .f64 a.b, .float .f64 b.b]], _, rfl, rfl, fun w => ?_⟩
    cases h1 : decide ((mnF b one64).k < (mxF a mone64).k)
    · rw [show withI ⟨a, b⟩ = ⟨mxF a mone64, mnF b one64⟩ from by simp only [withI, h1, cond_false]]
      exact calls_of_val goodG oracleIM 60 (vwRun1 a b) (ObsOk.of_B (obsB_yes h1 obsB_nil)) rfl rfl w
    · rw [show withI ⟨a, b⟩ = ⟨F.zero, F.zero⟩ from by simp only [withI, I.zero, h1, cond_true]]
      exact calls_of_val goodG oracleIM 60 (vwRun0 a b) (ObsOk.of_B (obsB_yes h1 obsB_nil)) rfl rfl w
  · cases h
def OPi : OracleF := lookO [(106, plainO (kNx nextF))]
theorem oraclePi : OracleOk Tryz.prog OPi := .cons nextG.of (.nil _)
def OPiK (f : F → Bool → F × Int) : OracleF := lookO [(106, plainO (kNx f))]
theorem piRun (f : F → Bool → F × Int) : valR ((run Tryz.prog EG (OPiK f) 60).1 93 [] [] (some [])) = some (.agg [.fl pi64, .fl (f pi64 true).1], some [], []) := by kernel_rfl
theorem piG : PlainOk Tryz.prog 93 (oConst (.agg [.fl PIc.lo, .fl PIc.hi])) := constG rfl fun w => calls_of_val goodG oraclePi 60 (piRun nextF) (ObsOk.of_B obsB_nil) rfl rfl w
theorem oracleCL : OracleOk Tryz.prog (lookO (OCL KkR)) := .cons addC (.cons subC (.cons mulC (.cons divC (.cons cmax_I (.cons sqrC (.cons csqrt_I (.cons negC (.cons numC (.cons irtK.of (.cons rightG.of (.cons absG.of (.cons vwG.of (.cons piG.of (.nil _))))))))))))))
end Go.Proofs.YtmhhopfffeijnaaGreat
namespace Go.Proofs.YtmhhopfffeijnaaGreat
set_option linter.all false
open Go.RowKit Bu Rx

def ivS (a : I) : SV := .agg [.fl a.lo, .fl a.hi]
theorem unRun (K : Kk) (x y z : F) : valR ((run Tryz.prog EG (lookO (OCL K)) 80).1 58 [.agg [.fl x, .fl y, .fl z]] [] (some [false, false])) = some (.tup [(unV K x y z).sv, .i .i64 0], some [], [(decide (huge64.k < (mostF x y z).k), false), (decide ((mostF x y z).k < tiny64.k), false)]) := by kernel_rfl
theorem unRun1 (K : Kk) (x y z : F) : valR ((run Tryz.prog EG (lookO (OCL K)) 80).1 58 [.agg [.fl x, .fl y, .fl z]] [] (some [true])) = some (.tup [V3.zero.sv, .i .i64 50], some [], [(decide ((mostF x y z).k < tiny64.k), true)]) := by kernel_rfl
theorem unRun2 (K : Kk) (x y z : F) : valR ((run Tryz.prog EG (lookO (OCL K)) 80).1 58 [.agg [.fl x, .fl y, .fl z]] [] (some [false, true])) = some (.tup [V3.zero.sv, .i .i64 50], some [], [(decide (huge64.k < (mostF x y z).k), true), (decide ((mostF x y z).k < tiny64.k), false)]) := by kernel_rfl
theorem ggDRun (K : Kk) (c al : I) : valR ((run Tryz.prog EG (lookO (OCL K)) 80).1 81 [ivS c, ivS al] [] (some [true, true, true, true, true, true, false])) = some (.tup [ivS (gt (ggE K ggD c al).1 0), .i .i64 0], some [], (neB (ggE K ggD c al).2, false) :: ggO c al) := by kernel_rfl
theorem ggDRun1 (K : Kk) (c al : I) : valR ((run Tryz.prog EG (lookO (OCL K)) 80).1 81 [ivS c, ivS al] [] (some [true, true, true, true, true, true, true])) = some (.tup [ivS I.zero, .si .i64 (ggE K ggD c al).2], some [], (neB (ggE K ggD c al).2, true) :: ggO c al) := by kernel_rfl
theorem gg1Run (K : Kk) (c al : I) : valR ((run Tryz.prog EG (lookO (OCL K)) 80).1 80 [ivS c, ivS al] [] (some [true, true, true, true, true, true, false])) = some (.tup [ivS (gt (ggE K gg1 c al).1 0), .i .i64 0], some [], (neB (ggE K gg1 c al).2, false) :: ggO c al) := by kernel_rfl
theorem gg1Run1 (K : Kk) (c al : I) : valR ((run Tryz.prog EG (lookO (OCL K)) 80).1 80 [ivS c, ivS al] [] (some [true, true, true, true, true, true, true])) = some (.tup [ivS I.zero, .si .i64 (ggE K gg1 c al).2], some [], (neB (ggE K gg1 c al).2, true) :: ggO c al) := by kernel_rfl
/-- the known function of a ggx formula -/
theorem gg_known {g : FuncId} {p : List Bu.Op}
    (h0 : ∀ (K : Kk) (c al : I), valR ((run Tryz.prog EG (lookO (OCL K)) 80).1 g [ivS c, ivS al] [] (some [true, true, true, true, true, true, false])) = some (.tup [ivS (gt (ggE K p c al).1 0), .i .i64 0], some [], (neB (ggE K p c al).2, false) :: ggO c al))
    (h1 : ∀ (K : Kk) (c al : I), valR ((run Tryz.prog EG (lookO (OCL K)) 80).1 g [ivS c, ivS al] [] (some [true, true, true, true, true, true, true])) = some (.tup [ivS I.zero, .si .i64 (ggE K p c al).2], some [], (neB (ggE K p c al).2, true) :: ggO c al)) : PlainOk Tryz.prog g (kGg (ggR KkR p)) := by
  intro args ds x ds' ob h ho
  unfold kGg at h
  split at h
  · rename_i a b c d
    simp only [Option.some.injEq, Prod.mk.injEq] at h
    obtain ⟨rfl, _, rfl⟩ := h
    refine ⟨[.agg #[.float .f64 a.b, .float .f64 b.b], .agg #[.float .f64 c.b, .float .f64 d.b]], _, rfl, rfl, fun w => ?_⟩
    unfold ggR
    cases k : neB (ggE KkR p ⟨a, b⟩ ⟨c, d⟩).2
    · have r := h0 KkR ⟨a, b⟩ ⟨c, d⟩
      exact calls_of_val goodG oracleCL 80 r (fun q hq => by
        rcases List.mem_cons.1 hq with rfl | hq
        · exact k
        · exact ho q hq) rfl rfl w
    · have r := h1 KkR ⟨a, b⟩ ⟨c, d⟩
      exact calls_of_val goodG oracleCL 80 r (fun q hq => by
        rcases List.mem_cons.1 hq with rfl | hq
        · exact k
        · exact ho q hq) rfl rfl w
  · cases h
theorem ggDG : PlainOk Tryz.prog 81 (kGg (ggR KkR ggD)) := gg_known ggDRun ggDRun1
theorem gg1G : PlainOk Tryz.prog 80 (kGg (ggR KkR gg1)) := gg_known gg1Run gg1Run1
theorem unG : PlainOk Tryz.prog 58 (kUn (unV KkR) unB) := by
  intro args ds x ds' ob h ho
  unfold kUn at h
  split at h
  · rename_i x y z
    simp only [Option.map_eq_some_iff, Prod.mk.injEq] at h
    obtain ⟨⟨r, e, o⟩, h1, rfl, rfl, rfl⟩ := h
    have hd : r = unB x y z := takeB_ok h1 ho
    subst hd
    unfold unB
    cases k1 : decide ((mostF x y z).k < tiny64.k)
    · cases k2 : decide (huge64.k < (mostF x y z).k)
      · exact ⟨[.agg #[.float .f64 x.b, .float .f64 y.b, .float .f64 z.b]], _, rfl, rfl, fun w => calls_of_val goodG oracleCL 80 (unRun KkR x y z) (ObsOk.of_B (obsB_yes k2 (obsB_yes k1 obsB_nil))) rfl rfl w⟩
      · exact ⟨[.agg #[.float .f64 x.b, .float .f64 y.b, .float .f64 z.b]], _, rfl, rfl, fun w => calls_of_val goodG oracleCL 80 (unRun2 KkR x y z) (ObsOk.of_B (obsB_yes k2 (obsB_yes k1 obsB_nil))) rfl rfl w⟩
    · exact ⟨[.agg #[.float .f64 x.b, .float .f64 y.b, .float .f64 z.b]], _, rfl, rfl, fun w => calls_of_val goodG oracleCL 80 (unRun1 KkR x y z) (ObsOk.of_B (obsB_yes k1 obsB_nil)) rfl rfl w⟩
  · cases h
end Go.Proofs.YtmhhopfffeijnaaGreat
