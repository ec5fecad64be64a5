/- VndfAlong: the walk, joined. -/
import Derived.Test.YtoafllcnnhhebaaGreatKi
import Derived.Test.YtoafllcnnhhebaaGreatKu
namespace Go.Proofs.YtoafllcnnhhebaaGreat
set_option linter.all false
open Go.RowKit Bu Rx

theorem oracle13 : OracleOk Tryz.prog (OL13 WR) := .cons addC (.cons subC (.cons mulC (.cons divC (.cons cmax_I (.cons sqrC (.cons csqrt_I (.cons negC (.cons numC (.cons irtK.of (.cons rightG.of (.cons absG.of (.cons vwG.of (.cons piG.of (.cons scK.of (.cons unitG.of (.cons drG.of (.cons dnG.of (.cons ggFG.of (.cons unG.of (.cons bwG.of (.cons meetsG.of (.cons ptG.of (.nil _)))))))))))))))))))))))
theorem awake13G : PlainOk Tryz.prog 24 (oConst (.b true)) := constG rfl fun w => calls_of_val goodG oracle13 80 (aw13Run WR) (ObsOk.of_B aw13_ok) rfl rfl w
theorem oracle14 : OracleOk Tryz.prog (OL14 WR) := .cons addC (.cons subC (.cons mulC (.cons divC (.cons cmax_I (.cons sqrC (.cons csqrt_I (.cons negC (.cons numC (.cons irtK.of (.cons rightG.of (.cons absG.of (.cons vwG.of (.cons piG.of (.cons scK.of (.cons unitG.of (.cons drG.of (.cons dnG.of (.cons ggFG.of (.cons unG.of (.cons bwG.of (.cons meetsG.of (.cons ptG.of (.cons awake13G.of (.nil _))))))))))))))))))))))))
theorem u32_13 {a : Int} (h : (Lit.int .u32 a).wf = true) : wN32 a = true := by
  refine decide_eq_true ?_
  simpa [Lit.wf, IntKind.min, IntKind.max, IntKind.signed, IntKind.bits] using h
theorem u64_13 {a : Int} (h : (Lit.int .u64 a).wf = true) : u64w a := by
  simpa [u64w, Lit.wf, IntKind.min, IntKind.max, IntKind.signed, IntKind.bits] using h
theorem vndfAlong_row (a b c d e : Int) (ha : (Lit.int .u32 a).wf = true) (hb : (Lit.int .u32 b).wf = true) (hc : (Lit.int .u32 c).wf = true) (hd : (Lit.int .u64 d).wf = true) (he : (Lit.int .u64 e).wf = true) (w : World) :
    Calls Tryz.prog 5 #[.agg #[.int .u32 a, .int .u32 b, .int .u32 c], .int .u64 d, .int .u64 e] w fun e w' => e = .returned (.bool true) ∧ Below w.heap.size w w' := by
  have ha' := u32_13 ha
  have hb' := u32_13 hb
  have hc' := u32_13 hc
  have hd' : u64w d := u64_13 hd
  have he' : u64w e := u64_13 he
  have o1 : obsB (alO1 WR a b c d e) = true := alO1_ok ha' hb' hc' hd' he'
  have hv := oneV_ok a b c
  have er := dr_er hv al_one hd' he'
  have r0 := alRun0 WR a b c d e
  have r1 := alRun1 WR a b c d e
  have r2 := alRun2 WR a b c d e
  have r3 := alRun3 WR a b c d e
  have mt : (WR.vd (oneV WR a b c) (pt one64) d e).2 = 0 → decide ((gt (evalK WR.K alP1 (alEnv WR (oneV WR a b c) (WR.vd (oneV WR a b c) (pt one64) d e).1 d e) 0).1 0).lo.k ≤ z64.k) = false →
      (alE WR (oneV WR a b c) (WR.vd (oneV WR a b c) (pt one64) d e).1 d e).2 = 0 ∧ WR.me (gt (alE WR (oneV WR a b c) (WR.vd (oneV WR a b c) (pt one64) d e).1 d e).1 0) (gt (alE WR (oneV WR a b c) (WR.vd (oneV WR a b c) (pt one64) d e).1 d e).1 8) = true := fun h0 hm =>
    al_meets hv hd' he' h0 (Int.not_le.1 (of_decide_eq_false hm))
  have er' : Er (WR.vd (oneV WR a b c) (pt one64) d e).2 := er
  generalize WR.vd (oneV WR a b c) (pt one64) d e = V at r0 r1 r2 r3 mt er'
  rcases er' with h | h | h
  · cases hm : decide ((gt (evalK WR.K alP1 (alEnv WR (oneV WR a b c) V.1 d e) 0).1 0).lo.k ≤ z64.k)
    · obtain ⟨h1, h2⟩ := mt h hm
      exact calls_of_val goodG oracle14 80 r3 (ObsOk.of_B (alO3_ok ha' hb' hc' hd' he' h hm h1 h2)) rfl rfl w
    · exact calls_of_val goodG oracle14 80 r2 (ObsOk.of_B (alO2_ok ha' hb' hc' hd' he' h hm)) rfl rfl w
  · exact calls_of_val goodG oracle14 80 r1 (ObsOk.of_B (obsB_yes (decide_eq_true h) (obsB_yes (decide_eq_false (by omega)) o1))) rfl rfl w
  · exact calls_of_val goodG oracle14 80 r0 (ObsOk.of_B (obsB_yes (decide_eq_true h) o1)) rfl rfl w
end Go.Proofs.YtoafllcnnhhebaaGreat
