/- burnishref04, by the reckoner: At, SinCos; row TrigTells. -/
import Derived.Test.YtmhhopfffeijnaaGreatNu
namespace Go.Proofs.YtmhhopfffeijnaaGreat
set_option linter.all false
open Go.RowKit Bu Rx

def OAR (K : Kt) (R : Kr) (W : I → I) : OracleF := lookO [(98, plainO (oConst (.agg [.fl pi64, .fl (K.nx pi64 true).1]))), (73, kC (aII K.add)), (46, kC (aII K.sub)), (49, kC (aII K.mul)), (76, kC (aI K.neg)), (47, kC (aF K.num)), (99, kC (aRow R)), (100, plainO (oI1 W))]
theorem oracleAR : OracleOk Tryz.prog (OAR KTR KRR withI) := .cons rpiG.of (.cons raddC (.cons rsubC (.cons rmulC (.cons rnegC (.cons rnumC (.cons rrowC (.cons rwithG.of (.nil _))))))))
theorem ratRun0 (K : Kt) (R : Kr) (W : I → I) (x : F) : valR ((run Tryz.prog EH (OAR K R W) 100).1 29 [.fl x] [] (some [false])) = some (.tup [.agg [.fl (atPt K R W 0 (ratT K (toF 0) x)).1.lo, .fl (atPt K R W 0 (ratT K (toF 0) x)).1.hi], .agg [.fl (atPt K R W 0 (ratT K (toF 0) x)).2.lo, .fl (atPt K R W 0 (ratT K (toF 0) x)).2.hi]], some [], [(true, true), (true, true), (decide (c1.k ≤ x.k), false), (true, true), (true, true)]) := by kernel_rfl
theorem ratRun1 (K : Kt) (R : Kr) (W : I → I) (x : F) : valR ((run Tryz.prog EH (OAR K R W) 100).1 29 [.fl x] [] (some [true, false])) = some (.tup [.agg [.fl (atPt K R W 1 (ratT K q1 x)).1.lo, .fl (atPt K R W 1 (ratT K q1 x)).1.hi], .agg [.fl (atPt K R W 1 (ratT K q1 x)).2.lo, .fl (atPt K R W 1 (ratT K q1 x)).2.hi]], some [], [(true, true), (true, true), (decide (c3.k ≤ x.k), false), (true, true), (true, true), (decide (c1.k ≤ x.k), true), (true, true), (true, true)]) := by kernel_rfl
theorem ratRun2 (K : Kt) (R : Kr) (W : I → I) (x : F) : valR ((run Tryz.prog EH (OAR K R W) 100).1 29 [.fl x] [] (some [true, true, false])) = some (.tup [.agg [.fl (atPt K R W 2 (ratT K q2 x)).1.lo, .fl (atPt K R W 2 (ratT K q2 x)).1.hi], .agg [.fl (atPt K R W 2 (ratT K q2 x)).2.lo, .fl (atPt K R W 2 (ratT K q2 x)).2.hi]], some [], [(true, true), (true, true), (decide (c5.k ≤ x.k), false), (true, true), (true, true), (decide (c3.k ≤ x.k), true), (true, true), (true, true), (decide (c1.k ≤ x.k), true), (true, true), (true, true)]) := by kernel_rfl
theorem ratRun3 (K : Kt) (R : Kr) (W : I → I) (x : F) : valR ((run Tryz.prog EH (OAR K R W) 100).1 29 [.fl x] [] (some [true, true, true, false])) = some (.tup [.agg [.fl (atPt K R W 3 (ratT K q3 x)).1.lo, .fl (atPt K R W 3 (ratT K q3 x)).1.hi], .agg [.fl (atPt K R W 3 (ratT K q3 x)).2.lo, .fl (atPt K R W 3 (ratT K q3 x)).2.hi]], some [], [(true, true), (true, true), (decide (c7.k ≤ x.k), false), (true, true), (true, true), (decide (c5.k ≤ x.k), true), (true, true), (true, true), (decide (c3.k ≤ x.k), true), (true, true), (true, true), (decide (c1.k ≤ x.k), true), (true, true), (true, true)]) := by kernel_rfl
theorem ratRun4 (K : Kt) (R : Kr) (W : I → I) (x : F) : valR ((run Tryz.prog EH (OAR K R W) 100).1 29 [.fl x] [] (some [true, true, true, true])) = some (.tup [.agg [.fl (atPt K R W 0 (ratT K one64 x)).1.lo, .fl (atPt K R W 0 (ratT K one64 x)).1.hi], .agg [.fl (atPt K R W 0 (ratT K one64 x)).2.lo, .fl (atPt K R W 0 (ratT K one64 x)).2.hi]], some [], [(true, true), (true, true), (decide (c7.k ≤ x.k), true), (true, true), (true, true), (decide (c5.k ≤ x.k), true), (true, true), (true, true), (decide (c3.k ≤ x.k), true), (true, true), (true, true), (decide (c1.k ≤ x.k), true), (true, true), (true, true)]) := by kernel_rfl
theorem ratGM : PlainOk Tryz.prog 29 (kAtR (ratM KTR KRR withI)) := by
  intro args ds x ds' ob h ho
  unfold kAtR at h
  split at h
  · rename_i x
    simp only [Option.some.injEq, Prod.mk.injEq] at h
    obtain ⟨rfl, _, _⟩ := h
    refine ⟨[.float .f64 x.b], _, rfl, rfl, fun w => ?_⟩
    unfold ratM
    cases h0 : decide (c1.k ≤ x.k)
    · exact calls_of_val goodH oracleAR 100 (ratRun0 KTR KRR withI x) (ObsOk.of_B (obsB_yes rfl (obsB_yes rfl (obsB_yes h0 (obsB_yes rfl (obsB_yes rfl (obsB_nil))))))) rfl rfl w
    · skip
      cases h1 : decide (c3.k ≤ x.k)
      · exact calls_of_val goodH oracleAR 100 (ratRun1 KTR KRR withI x) (ObsOk.of_B (obsB_yes rfl (obsB_yes rfl (obsB_yes h1 (obsB_yes rfl (obsB_yes rfl (obsB_yes h0 (obsB_yes rfl (obsB_yes rfl (obsB_nil)))))))))) rfl rfl w
      · skip
        cases h2 : decide (c5.k ≤ x.k)
        · exact calls_of_val goodH oracleAR 100 (ratRun2 KTR KRR withI x) (ObsOk.of_B (obsB_yes rfl (obsB_yes rfl (obsB_yes h2 (obsB_yes rfl (obsB_yes rfl (obsB_yes h1 (obsB_yes rfl (obsB_yes rfl (obsB_yes h0 (obsB_yes rfl (obsB_yes rfl (obsB_nil))))))))))))) rfl rfl w
        · skip
          cases h3 : decide (c7.k ≤ x.k)
          · exact calls_of_val goodH oracleAR 100 (ratRun3 KTR KRR withI x) (ObsOk.of_B (obsB_yes rfl (obsB_yes rfl (obsB_yes h3 (obsB_yes rfl (obsB_yes rfl (obsB_yes h2 (obsB_yes rfl (obsB_yes rfl (obsB_yes h1 (obsB_yes rfl (obsB_yes rfl (obsB_yes h0 (obsB_yes rfl (obsB_yes rfl (obsB_nil)))))))))))))))) rfl rfl w
          · exact calls_of_val goodH oracleAR 100 (ratRun4 KTR KRR withI x) (ObsOk.of_B (obsB_yes rfl (obsB_yes rfl (obsB_yes h3 (obsB_yes rfl (obsB_yes rfl (obsB_yes h2 (obsB_yes rfl (obsB_yes rfl (obsB_yes h1 (obsB_yes rfl (obsB_yes rfl (obsB_yes h0 (obsB_yes rfl (obsB_yes rfl (obsB_nil)))))))))))))))) rfl rfl w
  · cases h
theorem k_q {x : F} (h : decide ((toF 0).k ≤ x.k ∧ x.k ≤ one64.k) = true) : 0 ≤ x.q ∧ x.q ≤ 1 := by
  have := of_decide_eq_true h
  refine ⟨?_, ?_⟩
  · have h0 := q_le.2 this.1
    rw [show (toF 0).q = 0 from by decide +kernel] at h0
    exact h0
  · have h1 := q_le.2 this.2
    rw [one_q] at h1
    exact h1
theorem ratG : PlainOk Tryz.prog 29 (kAtR atR) := by
  intro args ds x ds' ob h ho
  unfold kAtR at h
  split at h
  · rename_i x
    simp only [Option.some.injEq, Prod.mk.injEq] at h
    obtain ⟨rfl, rfl, rfl⟩ := h
    obtain ⟨b1, b2⟩ := k_q (ho _ (List.mem_cons_self ..))
    rw [← ratM_eq b1 b2]
    exact ratGM [.fl x] ds _ ds _ rfl ho
  · cases h
def rSet (f : F → I × I) : OracleF := lookO [(28, plainO oRt), (31, plainO oHas), (30, plainO (oI2 hullI)), (29, plainO (kAtR f))]
theorem oracleRS : OracleOk Tryz.prog (rSet atR) := .cons rrtG.of (.cons rhasG.of (.cons rhullG.of (.cons ratG.of (.nil _))))
theorem rscRun0 (f : F → I × I) (a b : F) : valR ((run Tryz.prog EH (rSet f) 100).1 7 [.agg [.fl a, .fl b]] [] (some [false])) = some (noSC, some [], [(rt ⟨a, b⟩, false)]) := by kernel_rfl
theorem rscRun1 (f : F → I × I) (a b : F) : valR ((run Tryz.prog EH (rSet f) 100).1 7 [.agg [.fl a, .fl b]] [] (some [true, true])) = some (noSC, some [], [(decide (a.k < (toF 0).k), true), (rt ⟨a, b⟩, true)]) := by kernel_rfl
theorem rscRun2 (f : F → I × I) (a b : F) : valR ((run Tryz.prog EH (rSet f) 100).1 7 [.agg [.fl a, .fl b]] [] (some [true, false, true])) = some (noSC, some [], [(decide (one64.k < b.k), true), (decide (a.k < (toF 0).k), false), (rt ⟨a, b⟩, true)]) := by kernel_rfl
theorem rscRun3 (f : F → I × I) (a b : F) (h1 h2 h3 : Bool) : valR ((run Tryz.prog EH (rSet f) 100).1 7 [.agg [.fl a, .fl b]] [] (some [true, false, false, h1, h3, h2])) =
    some (.tup [.agg [.fl (sinT f h1 h3 a b).lo, .fl (sinT f h1 h3 a b).hi], .agg [.fl (cosT f h2 a b).lo, .fl (cosT f h2 a b).hi], .i .i64 0], some [],
      [(hasB ⟨a, b⟩ q2, h2), (hasB ⟨a, b⟩ q3, h3), (hasB ⟨a, b⟩ q1, h1), (decide ((toF 0).k ≤ b.k ∧ b.k ≤ one64.k), true), (decide ((toF 0).k ≤ a.k ∧ a.k ≤ one64.k), true), (decide (one64.k < b.k), false), (decide (a.k < (toF 0).k), false), (rt ⟨a, b⟩, true)]) := by cases h1 <;> cases h2 <;> cases h3 <;> kernel_rfl
theorem rscG : PlainOk Tryz.prog 7 (oSC atR) := by
  intro args ds x ds' ob h ho
  unfold oSC at h
  split at h
  · rename_i a b
    simp only [Option.map_eq_some_iff, Prod.mk.injEq] at h
    obtain ⟨⟨d, e, o⟩, h1, rfl, rfl, rfl⟩ := h
    have hd : d = inB a b := takeB_ok h1 ho
    cases hi : inB a b
    · rw [hi] at hd; subst hd
      refine ⟨[.agg #[.float .f64 a.b, .float .f64 b.b]], _, rfl, rfl, fun w => ?_⟩
      cases g1 : rt ⟨a, b⟩
      · exact calls_of_val goodH oracleRS 100 (rscRun0 atR a b) (ObsOk.of_B (obsB_yes g1 obsB_nil)) rfl rfl w
      · cases g2 : decide (a.k < (toF 0).k)
        · refine calls_of_val goodH oracleRS 100 (rscRun2 atR a b) (ObsOk.of_B (obsB_yes ?_ (obsB_yes g2 (obsB_yes g1 obsB_nil)))) rfl rfl w
          have g3 := of_decide_eq_false g2
          unfold inB at hi
          rw [g1, show decide ((toF 0).k ≤ a.k) = true from decide_eq_true (by omega), Bool.true_and, Bool.true_and] at hi
          have g4 := of_decide_eq_false hi
          exact decide_eq_true (by omega)
        · exact calls_of_val goodH oracleRS 100 (rscRun1 atR a b) (ObsOk.of_B (obsB_yes g2 (obsB_yes g1 obsB_nil))) rfl rfl w
    · rw [hi] at hd; subst hd
      refine ⟨[.agg #[.float .f64 a.b, .float .f64 b.b]], _, rfl, rfl, fun w => ?_⟩
      unfold inB at hi
      rw [Bool.and_eq_true, Bool.and_eq_true, decide_eq_true_iff, decide_eq_true_iff] at hi
      have hab : a.k ≤ b.k := of_decide_eq_true hi.1.1
      exact calls_of_val goodH oracleRS 100 (rscRun3 atR a b _ _ _) (ObsOk.of_B (obsB_yes rfl (obsB_yes rfl (obsB_yes rfl (obsB_yes (decide_eq_true (by omega)) (obsB_yes (decide_eq_true (by omega)) (obsB_yes (decide_eq_false (by omega)) (obsB_yes (decide_eq_false (by omega)) (obsB_yes hi.1.1 obsB_nil))))))))) rfl rfl w
  · cases h
theorem rscK : PlainOk Tryz.prog 7 (kSC (NR atR).ib (NR atR).si (NR atR).co) := rscG
/-! the row -/
def OTT (N : Ns) : OracleF := lookO [(6, plainO (kSC N.ib N.si N.co)), (7, plainO (kSC N.ib N.si N.co)), (8, plainO (kBII N.sa)), (9, plainO (oConst (.b true)))]
theorem oracleTT : OracleOk Tryz.prog (OTT (NR atR)) := .cons scK.of (.cons rscK.of (.cons sameK.of (.cons awakeG.of (.nil _))))
theorem ttRun1 (N : Ns) (a b : F) : valR ((run Tryz.prog EH (OTT N) 60).1 3 [.agg [.fl a, .fl b]] [] (some [true, true, true, true])) = some (.b true, some [], [(N.sa (N.co ⟨a, b⟩) (N.co ⟨a, b⟩), true), (N.sa (N.si ⟨a, b⟩) (N.si ⟨a, b⟩), true), (N.ib ⟨a, b⟩, true), (N.ib ⟨a, b⟩, true)]) := by kernel_rfl
theorem ttRun0 (N : Ns) (a b : F) : valR ((run Tryz.prog EH (OTT N) 60).1 3 [.agg [.fl a, .fl b]] [] (some [false, false, true, true])) = some (.b true, some [], [(N.sa I.zero I.zero, true), (N.sa I.zero I.zero, true), (N.ib ⟨a, b⟩, false), (N.ib ⟨a, b⟩, false)]) := by kernel_rfl
def OTU (s : I → I → Bool) : OracleF := lookO [(8, plainO (kBII s)), (9, plainO (oConst (.b true))), (90, plainO oRight), (97, plainO oRight)]
theorem oracleTU : OracleOk Tryz.prog (OTU sameI) := .cons sameK.of (.cons awakeG.of (.cons rightG.of (.cons rRightP.of (.nil _))))
theorem ttRun2 (s : I → I → Bool) (a b : Nat) : valR ((run Tryz.prog EH (OTU s) 60).1 3 [.agg [.f a, .f b]] [] (some [false, false, true, true])) = some (.b true, some [], [(s I.zero I.zero, true), (s I.zero I.zero, true), (Nat.blt a 18446744073709551616, true), (rightB a, false), (Nat.blt a 18446744073709551616, true), (rightB a, false)]) := by kernel_rfl
theorem ttRun3 (s : I → I → Bool) (a b : Nat) : valR ((run Tryz.prog EH (OTU s) 60).1 3 [.agg [.f a, .f b]] [] (some [true, false, true, false, true, true])) = some (.b true, some [], [(s I.zero I.zero, true), (s I.zero I.zero, true), (Nat.blt b 18446744073709551616, true), (rightB b, false), (rightB a, true), (Nat.blt b 18446744073709551616, true), (rightB b, false), (rightB a, true)]) := by kernel_rfl
theorem trigTells_row (a b : Nat) (ha : a < 18446744073709551616) (hb : b < 18446744073709551616) (w : World) :
    Calls Tryz.prog 3 #[.agg #[.float .f64 a, .float .f64 b]] w fun e w' => e = .returned (.bool true) ∧ Below w.heap.size w w' := by
  have la := Nat.blt_eq.mpr ha
  have lb := Nat.blt_eq.mpr hb
  have same0 : sameI I.zero I.zero = true := (sameI_iff _ _).2 rfl
  cases h1 : rightB a
  · exact calls_of_val goodH oracleTU 60 (ttRun2 sameI a b) (ObsOk.of_B (obsB_yes same0 (obsB_yes same0 (obsB_yes la (obsB_yes h1 (obsB_yes la (obsB_yes h1 obsB_nil))))))) rfl rfl w
  · cases h2 : rightB b
    · exact calls_of_val goodH oracleTU 60 (ttRun3 sameI a b) (ObsOk.of_B (obsB_yes same0 (obsB_yes same0 (obsB_yes lb (obsB_yes h2 (obsB_yes h1 (obsB_yes lb (obsB_yes h2 (obsB_yes h1 obsB_nil))))))))) rfl rfl w
    · obtain ⟨x, rfl⟩ := F_of_right h1
      obtain ⟨y, rfl⟩ := F_of_right h2
      cases h : inB x y
      · exact calls_of_val goodH oracleTT 60 (ttRun0 (NR atR) x y) (ObsOk.of_B (obsB_yes same0 (obsB_yes same0 (obsB_yes h (obsB_yes h obsB_nil))))) rfl rfl w
      · exact calls_of_val goodH oracleTT 60 (ttRun1 (NR atR) x y) (ObsOk.of_B (obsB_yes ((sameI_iff _ _).2 rfl) (obsB_yes ((sameI_iff _ _).2 rfl) (obsB_yes h (obsB_yes h obsB_nil))))) rfl rfl w
end Go.Proofs.YtmhhopfffeijnaaGreat
