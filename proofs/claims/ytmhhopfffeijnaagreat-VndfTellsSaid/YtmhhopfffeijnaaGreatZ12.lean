/- Package trig by the reckoner: row, within, at. Package trig by the reckoner: SinCos; and what its laws ask. The document's examples of layer 4, by the reckoner. -/
import Derived.Test.YtmhhopfffeijnaaGreatZ11
import Derived.Test.YtmhhopfffeijnaaGreatZ04
import Derived.Test.YtmhhopfffeijnaaGreatZ06
namespace Go.Proofs.YtmhhopfffeijnaaGreat
set_option linter.all false
open Go.RowKit Bu Rx

def OGT (K : Kt) : OracleF := lookO [(68, kC (aII K.add)), (40, kC (aII K.sub)), (38, kC (aII K.mul)), (84, kC (aII K.div)), (69, kC (aI K.sqr)), (41, kC (aF K.num))]
theorem pdivG : PlainOk Tryz.prog 161 (kTwo pDiv) := two_ok div_F_w
theorem nextG : PlainOk Tryz.prog 106 (kNx nextF) := by
  intro args ds x ds' ob h1 ho
  unfold kNx at h1
  split at h1
  · rename_i x up
    simp only [Option.some.injEq, Prod.mk.injEq] at h1
    obtain ⟨rfl, _, _⟩ := h1
    exact ⟨[.float .f64 x.b, .bool up], _, rfl, rfl, fun w => next_F x up w⟩
  · cases h1
theorem addC : OfOk Tryz.prog 68 (kC (aII KTR.add)) := cadd_I (two_ok add_F_w)
theorem subC : OfOk Tryz.prog 40 (kC (aII KTR.sub)) := csub_I (two_ok sub_F_w)
theorem mulC : OfOk Tryz.prog 38 (kC (aII KTR.mul)) := cmul_I (two_ok mul_F_w)
theorem divC : OfOk Tryz.prog 84 (kC (aII KTR.div)) := cdiv_I pdivG
theorem sqrC : OfOk Tryz.prog 69 (kC (aI KTR.sqr)) := csqr_I (two_ok mul_F_w)
theorem numC : OfOk Tryz.prog 41 (kC (aF KTR.num)) := cnum_I
theorem negC : OfOk Tryz.prog 143 (kC (aI KTR.neg)) := cneg_I
theorem oracleGT : OracleOk Tryz.prog (OGT KTR) := .cons addC (.cons subC (.cons mulC (.cons divC (.cons sqrC (.cons numC (.nil _))))))
theorem row20Run (K : Kt) (a b : F) (t : Nat) (n : Int) : takeR 1 ((run Tryz.prog EG (OGT K) 100).1 95 [.p 0 0, .agg [.fl a, .fl b], .i .i64 20] [⟨t, [.si .i64 n]⟩] (some [])) =
    some (.agg [.fl (row20 K n ⟨a, b⟩).1.lo, .fl (row20 K n ⟨a, b⟩).1.hi], [⟨t, [.si .i64 (row20 K n ⟨a, b⟩).2]⟩], some [], []) := by kernel_rfl
theorem row19Run (K : Kt) (a b : F) (t : Nat) (n : Int) : takeR 1 ((run Tryz.prog EG (OGT K) 100).1 95 [.p 0 0, .agg [.fl a, .fl b], .i .i64 19] [⟨t, [.si .i64 n]⟩] (some [])) =
    some (.agg [.fl (row19 K n ⟨a, b⟩).1.lo, .fl (row19 K n ⟨a, b⟩).1.hi], [⟨t, [.si .i64 (row19 K n ⟨a, b⟩).2]⟩], some [], []) := by kernel_rfl
theorem pair_eta (r : I × Int) : r = (⟨r.1.lo, r.1.hi⟩, r.2) := rfl
theorem plain_si (k : IntKind) (n : Int) : plain (.si k n) = some (.int k n) := rfl
theorem calc_flow {O : OracleF} (hO : OracleOk Tryz.prog O) {k : Nat} {g : FuncId} {args : List SV} {t : Nat} {n : Int} {ds ds' : Dec} {ob : Obs} (r : I × Int)
    (h : takeR 1 ((run Tryz.prog EG O k).1 g (.p 0 0 :: args) [⟨t, [.si .i64 n]⟩] ds) = some (.agg [.fl r.1.lo, .fl r.1.hi], [⟨t, [.si .i64 r.2]⟩], ds', ob)) (ho : obsB ob = true) : CalcAt Tryz.prog g args t n r :=
  calc_path goodG hO h ho (pair_eta r) (plain_si _ _)
theorem rowC_of (R : Kr) (h20 : ∀ a b t n, CalcAt Tryz.prog 95 [.agg [.fl a, .fl b], .i .i64 20] t n (R.r20 n ⟨a, b⟩)) (h19 : ∀ a b t n, CalcAt Tryz.prog 95 [.agg [.fl a, .fl b], .i .i64 19] t n (R.r19 n ⟨a, b⟩)) : OfOk Tryz.prog 95 (kC (aRow R)) := by
  refine ofCalc fun l f hf t n => ?_
  unfold aRow at hf
  split at hf
  · rename_i a b m
    split at hf
    · rename_i e
      have e1 : Int.ofNat m = 20 := by rw [Nat.eq_of_beq_eq_true e]; rfl
      rw [e1]
      simp only [Option.some.injEq] at hf; subst hf
      exact h20 a b t n
    · split at hf
      · rename_i e
        have e1 : Int.ofNat m = 19 := by rw [Nat.eq_of_beq_eq_true e]; rfl
        rw [e1]
        simp only [Option.some.injEq] at hf; subst hf
        exact h19 a b t n
      · cases hf
  · cases hf
theorem row20C (a b : F) (t : Nat) (n : Int) : CalcAt Tryz.prog 95 [.agg [.fl a, .fl b], .i .i64 20] t n (row20 KTR n ⟨a, b⟩) := calc_flow oracleGT _ (row20Run KTR a b t n) obsB_nil
theorem row19C (a b : F) (t : Nat) (n : Int) : CalcAt Tryz.prog 95 [.agg [.fl a, .fl b], .i .i64 19] t n (row19 KTR n ⟨a, b⟩) := calc_flow oracleGT _ (row19Run KTR a b t n) obsB_nil
theorem rowC : OfOk Tryz.prog 95 (kC (aRow KRR)) := rowC_of ⟨row20 KTR, row19 KTR⟩ row20C row19C
def OIM : OracleF := lookO []
theorem oracleIM : OracleOk Tryz.prog OIM := .nil _
theorem withRun0 (a b : F) : valR ((run Tryz.prog EG OIM 60).1 96 [.agg [.fl a, .fl b]] [] (some [true])) = some (.agg [.fl F.zero, .fl F.zero], some [], [(decide ((mnF b one64).k < (mxF a mone64).k), true)]) := by kernel_rfl
theorem withRun1 (a b : F) : valR ((run Tryz.prog EG OIM 60).1 96 [.agg [.fl a, .fl b]] [] (some [false])) = some (.agg [.fl (mxF a mone64), .fl (mnF b one64)], some [], [(decide ((mnF b one64).k < (mxF a mone64).k), false)]) := by kernel_rfl
theorem withG : PlainOk Tryz.prog 96 (oI1 withI) := by
  intro args ds x ds' ob h ho
  unfold oI1 at h
  split at h
  · rename_i a b
    simp only [Option.some.injEq, Prod.mk.injEq] at h
    obtain ⟨rfl, _, _⟩ := h
    refine ⟨[.agg #[.float .f64 a.b, .float .f64 b.b]], _, rfl, rfl, fun w => ?_⟩
    cases h1 : decide ((mnF b one64).k < (mxF a mone64).k)
    · rw [show withI ⟨a, b⟩ = ⟨mxF a mone64, mnF b one64⟩ from by simp only [withI, h1, cond_false]]
      exact calls_of_val goodG oracleIM 60 (withRun1 a b) (ObsOk.of_B (obsB_yes h1 obsB_nil)) rfl rfl w
    · rw [show withI ⟨a, b⟩ = ⟨F.zero, F.zero⟩ from by simp only [withI, I.zero, h1, cond_true]]
      exact calls_of_val goodG oracleIM 60 (withRun0 a b) (ObsOk.of_B (obsB_yes h1 obsB_nil)) rfl rfl w
  · cases h
def OAT (K : Kt) (R : Kr) (W : I → I) : OracleF := lookO [(106, plainO (kNx K.nx)), (68, kC (aII K.add)), (40, kC (aII K.sub)), (38, kC (aII K.mul)), (143, kC (aI K.neg)), (41, kC (aF K.num)), (95, kC (aRow R)), (96, plainO (oI1 W))]
theorem oracleAT : OracleOk Tryz.prog (OAT KTR KRR withI) := .cons nextG.of (.cons addC (.cons subC (.cons mulC (.cons negC (.cons numC (.cons rowC (.cons withG.of (.nil _))))))))
theorem atRun1 (K : Kt) (R : Kr) (W : I → I) (x : F) : valR ((run Tryz.prog EG (OAT K R W) 100).1 24 [.fl x] [] (some [true, true, true])) = some (.agg [.fl (atP K R W 0 (toF 0) x).1.lo, .fl (atP K R W 0 (toF 0) x).1.hi, .fl (atP K R W 0 (toF 0) x).2.lo, .fl (atP K R W 0 (toF 0) x).2.hi], some [], [(true, true), (true, true), (decide (x.k < c1.k), true), (true, true), (true, true), (decide (x.k < c3.k), true), (true, true), (true, true), (decide (x.k < c5.k), true), (true, true), (true, true)]) := by kernel_rfl
theorem atRun2 (K : Kt) (R : Kr) (W : I → I) (x : F) : valR ((run Tryz.prog EG (OAT K R W) 100).1 24 [.fl x] [] (some [true, true, false])) = some (.agg [.fl (atP K R W 1 q1 x).1.lo, .fl (atP K R W 1 q1 x).1.hi, .fl (atP K R W 1 q1 x).2.lo, .fl (atP K R W 1 q1 x).2.hi], some [], [(true, true), (true, true), (decide (x.k < c1.k), false), (true, true), (true, true), (decide (x.k < c3.k), true), (true, true), (true, true), (decide (x.k < c5.k), true), (true, true), (true, true)]) := by kernel_rfl
theorem atRun3 (K : Kt) (R : Kr) (W : I → I) (x : F) : valR ((run Tryz.prog EG (OAT K R W) 100).1 24 [.fl x] [] (some [true, false])) = some (.agg [.fl (atP K R W 2 q2 x).1.lo, .fl (atP K R W 2 q2 x).1.hi, .fl (atP K R W 2 q2 x).2.lo, .fl (atP K R W 2 q2 x).2.hi], some [], [(true, true), (true, true), (decide (x.k < c3.k), false), (true, true), (true, true), (decide (x.k < c5.k), true), (true, true), (true, true)]) := by kernel_rfl
theorem atRun4 (K : Kt) (R : Kr) (W : I → I) (x : F) : valR ((run Tryz.prog EG (OAT K R W) 100).1 24 [.fl x] [] (some [false, true])) = some (.agg [.fl (atP K R W 3 q3 x).1.lo, .fl (atP K R W 3 q3 x).1.hi, .fl (atP K R W 3 q3 x).2.lo, .fl (atP K R W 3 q3 x).2.hi], some [], [(true, true), (true, true), (decide (x.k < c7.k), true), (true, true), (true, true), (decide (x.k < c5.k), false), (true, true), (true, true)]) := by kernel_rfl
theorem atRun5 (K : Kt) (R : Kr) (W : I → I) (x : F) : valR ((run Tryz.prog EG (OAT K R W) 100).1 24 [.fl x] [] (some [false, false])) = some (.agg [.fl (atP K R W 0 one64 x).1.lo, .fl (atP K R W 0 one64 x).1.hi, .fl (atP K R W 0 one64 x).2.lo, .fl (atP K R W 0 one64 x).2.hi], some [], [(true, true), (true, true), (decide (x.k < c7.k), false), (true, true), (true, true), (decide (x.k < c5.k), false), (true, true), (true, true)]) := by kernel_rfl
theorem atG : PlainOk Tryz.prog 24 (kAt atR) := by
  intro args ds x ds' ob h ho
  unfold kAt at h
  split at h
  · rename_i x
    simp only [Option.some.injEq, Prod.mk.injEq] at h
    obtain ⟨rfl, _, _⟩ := h
    refine ⟨[.float .f64 x.b], _, rfl, rfl, fun w => ?_⟩
    cases h5 : decide (x.k < c5.k)
    · cases h7 : decide (x.k < c7.k)
      · skip
        rw [show atR x = _ from (by simp only [atR, atM, h7, h5, cond_true, cond_false] : atR x = atP KTR KRR withI 0 one64 x)]
        exact calls_of_val goodG oracleAT 100 (atRun5 KTR KRR withI x) (ObsOk.of_B (obsB_yes rfl (obsB_yes rfl (obsB_yes h7 (obsB_yes rfl (obsB_yes rfl (obsB_yes h5 (obsB_yes rfl (obsB_yes rfl obsB_nil))))))))) rfl rfl w
      · skip
        rw [show atR x = _ from (by simp only [atR, atM, h7, h5, cond_true, cond_false] : atR x = atP KTR KRR withI 3 q3 x)]
        exact calls_of_val goodG oracleAT 100 (atRun4 KTR KRR withI x) (ObsOk.of_B (obsB_yes rfl (obsB_yes rfl (obsB_yes h7 (obsB_yes rfl (obsB_yes rfl (obsB_yes h5 (obsB_yes rfl (obsB_yes rfl obsB_nil))))))))) rfl rfl w
    · cases h3 : decide (x.k < c3.k)
      · skip
        rw [show atR x = _ from (by simp only [atR, atM, h3, h5, cond_true, cond_false] : atR x = atP KTR KRR withI 2 q2 x)]
        exact calls_of_val goodG oracleAT 100 (atRun3 KTR KRR withI x) (ObsOk.of_B (obsB_yes rfl (obsB_yes rfl (obsB_yes h3 (obsB_yes rfl (obsB_yes rfl (obsB_yes h5 (obsB_yes rfl (obsB_yes rfl obsB_nil))))))))) rfl rfl w
      · cases h1 : decide (x.k < c1.k)
        · skip
          rw [show atR x = _ from (by simp only [atR, atM, h1, h3, h5, cond_true, cond_false] : atR x = atP KTR KRR withI 1 q1 x)]
          exact calls_of_val goodG oracleAT 100 (atRun2 KTR KRR withI x) (ObsOk.of_B (obsB_yes rfl (obsB_yes rfl (obsB_yes h1 (obsB_yes rfl (obsB_yes rfl (obsB_yes h3 (obsB_yes rfl (obsB_yes rfl (obsB_yes h5 (obsB_yes rfl (obsB_yes rfl obsB_nil)))))))))))) rfl rfl w
        · skip
          rw [show atR x = _ from (by simp only [atR, atM, h1, h3, h5, cond_true, cond_false] : atR x = atP KTR KRR withI 0 (toF 0) x)]
          exact calls_of_val goodG oracleAT 100 (atRun1 KTR KRR withI x) (ObsOk.of_B (obsB_yes rfl (obsB_yes rfl (obsB_yes h1 (obsB_yes rfl (obsB_yes rfl (obsB_yes h3 (obsB_yes rfl (obsB_yes rfl (obsB_yes h5 (obsB_yes rfl (obsB_yes rfl obsB_nil)))))))))))) rfl rfl w
  · cases h
end Go.Proofs.YtmhhopfffeijnaaGreat
namespace Go.Proofs.YtmhhopfffeijnaaGreat
set_option linter.all false
open Go.RowKit Bu Rx

def OSI (f : F → I × I) : OracleF := lookO [(23, plainO oRt), (27, plainO oHas), (25, plainO (oI2 hullI)), (24, plainO (kAt f))]
theorem oracleSI : OracleOk Tryz.prog (OSI atR) := .cons irightG.of (.cons ihasG.of (.cons hullG.of (.cons atG.of (.nil _))))
def noSC : SV := .tup [.agg [.fl F.zero, .fl F.zero], .agg [.fl F.zero, .fl F.zero], .i .i64 2]
theorem scRun0 (f : F → I × I) (a b : F) : valR ((run Tryz.prog EG (OSI f) 100).1 6 [.agg [.fl a, .fl b]] [] (some [false])) = some (noSC, some [], [(rt ⟨a, b⟩, false)]) := by kernel_rfl
theorem scRun1 (f : F → I × I) (a b : F) : valR ((run Tryz.prog EG (OSI f) 100).1 6 [.agg [.fl a, .fl b]] [] (some [true, true])) = some (noSC, some [], [(decide (a.k < (toF 0).k), true), (rt ⟨a, b⟩, true)]) := by kernel_rfl
theorem scRun2 (f : F → I × I) (a b : F) : valR ((run Tryz.prog EG (OSI f) 100).1 6 [.agg [.fl a, .fl b]] [] (some [true, false, true])) = some (noSC, some [], [(decide (one64.k < b.k), true), (decide (a.k < (toF 0).k), false), (rt ⟨a, b⟩, true)]) := by kernel_rfl
theorem scRun3 (f : F → I × I) (a b : F) (h1 h2 h3 : Bool) : valR ((run Tryz.prog EG (OSI f) 100).1 6 [.agg [.fl a, .fl b]] [] (some [true, false, false, h1, h3, h2])) =
    some (.tup [.agg [.fl (sinT f h1 h3 a b).lo, .fl (sinT f h1 h3 a b).hi], .agg [.fl (cosT f h2 a b).lo, .fl (cosT f h2 a b).hi], .i .i64 0], some [],
      [(hasB ⟨a, b⟩ q2, h2), (hasB ⟨a, b⟩ q3, h3), (hasB ⟨a, b⟩ q1, h1), (decide (one64.k < b.k), false), (decide (a.k < (toF 0).k), false), (rt ⟨a, b⟩, true)]) := by cases h1 <;> cases h2 <;> cases h3 <;> kernel_rfl
theorem scG : PlainOk Tryz.prog 6 (oSC atR) := by
  intro args ds x ds' ob h ho
  unfold oSC at h
  split at h
  · rename_i a b
    simp only [Option.map_eq_some_iff, Prod.mk.injEq] at h
    obtain ⟨⟨d, e, o⟩, h1, rfl, rfl, rfl⟩ := h
    have hd : d = inB a b := takeB_ok h1 ho
    cases hi : inB a b
    · rw [hi] at hd; subst hd
      refine ⟨[.agg #[.float .f64 a.b, .float .f64 b.b]], _, rfl, rfl, fun w => ?_⟩
      cases g1 : rt ⟨a, b⟩
      · exact calls_of_val goodG oracleSI 100 (scRun0 atR a b) (ObsOk.of_B (obsB_yes g1 obsB_nil)) rfl rfl w
      · cases g2 : decide (a.k < (toF 0).k)
        · refine calls_of_val goodG oracleSI 100 (scRun2 atR a b) (ObsOk.of_B (obsB_yes ?_ (obsB_yes g2 (obsB_yes g1 obsB_nil)))) rfl rfl w
          have g3 := of_decide_eq_false g2
          unfold inB at hi
          rw [g1, show decide ((toF 0).k ≤ a.k) = true from decide_eq_true (by omega), Bool.true_and, Bool.true_and] at hi
          have g4 := of_decide_eq_false hi
          exact decide_eq_true (by omega)
        · exact calls_of_val goodG oracleSI 100 (scRun1 atR a b) (ObsOk.of_B (obsB_yes g2 (obsB_yes g1 obsB_nil))) rfl rfl w
    · rw [hi] at hd; subst hd
      refine ⟨[.agg #[.float .f64 a.b, .float .f64 b.b]], _, rfl, rfl, fun w => ?_⟩
      unfold inB at hi
      rw [Bool.and_eq_true, Bool.and_eq_true, decide_eq_true_iff, decide_eq_true_iff] at hi
      exact calls_of_val goodG oracleSI 100 (scRun3 atR a b _ _ _) (ObsOk.of_B (obsB_yes rfl (obsB_yes rfl (obsB_yes rfl (obsB_yes (decide_eq_false (by omega)) (obsB_yes (decide_eq_false (by omega)) (obsB_yes hi.1.1 obsB_nil))))))) rfl rfl w
  · cases h
theorem constG {P : Program} {g : FuncId} {x : SV} {v : Value} (hx : plain x = some v) (h : ∀ w, Calls P g #[] w fun e w' => e = .returned v ∧ Below w.heap.size w w') : PlainOk P g (oConst x) := by
  intro args ds y ds' ob hk ho
  unfold oConst at hk
  split at hk
  · simp only [Option.some.injEq, Prod.mk.injEq] at hk
    obtain ⟨rfl, _, _⟩ := hk
    exact ⟨[], v, rfl, hx, h⟩
  · cases hk
theorem scK : PlainOk Tryz.prog 6 (kSC (NR atR).ib (NR atR).si (NR atR).co) := scG
theorem irtK : PlainOk Tryz.prog 23 (kBI rt) := irightG
end Go.Proofs.YtmhhopfffeijnaaGreat
namespace Go.Proofs.YtmhhopfffeijnaaGreat
set_option linter.all false
open Go.RowKit Bu Rx

end Go.Proofs.YtmhhopfffeijnaaGreat
