/- burnishref04, by the reckoner: row, within, At, SinCos; row TrigTells. -/
import Derived.Test.YtmhhopfffeijnaaGreatNt
namespace Go.Proofs.YtmhhopfffeijnaaGreat
set_option linter.all false
open Go.RowKit Bu Rx

theorem raddC : OfOk Tryz.prog 73 (kC (aII KTR.add)) := radd_I raddG
theorem rsubC : OfOk Tryz.prog 46 (kC (aII KTR.sub)) := rsub_I rsubG
theorem rmulC : OfOk Tryz.prog 49 (kC (aII KTR.mul)) := rmul_I rmulG
theorem rdivC : OfOk Tryz.prog 75 (kC (aII KTR.div)) := rdiv_I rdivG
theorem rnumC : OfOk Tryz.prog 47 (kC (aF KTR.num)) := rnum_I
theorem rnegC : OfOk Tryz.prog 76 (kC (aI KTR.neg)) := rneg_I
/-! Sqr -/
def OQS (A : Int → I → I × Int) (f : Bool → F → F → F × Int) : OracleF := lookO [(153, kC (aI A)), (134, plainO (kTwo f))]
theorem oracleQS : OracleOk Tryz.prog (OQS cAbs dMul) := .cons rabs_I (.cons rmulG.of (.nil _))
def sqO (A : Int → I → I × Int) (n : Int) (a b : F) (d : Bool) : Bool × Bool := (!((A n ⟨a, b⟩).2 == 0), d)
theorem rsq1 (A : Int → I → I × Int) (f : Bool → F → F → F × Int) (t : Nat) (n : Int) (a b : F) : takeR 1 ((run Tryz.prog EH (OQS A f) 80).1 74 (.p 0 0 :: [.agg [.fl a, .fl b]]) [⟨t, [.si .i64 n]⟩] (some [true])) = some (.agg [.fl F.zero, .fl F.zero], [⟨t, [.si .i64 (A n ⟨a, b⟩).2]⟩], some [], [sqO A n a b true]) := by kernel_rfl
def sqL (A : Int → I → I × Int) (f : Bool → F → F → F × Int) (n : Int) (a b : F) : F × Int := f false (A n ⟨a, b⟩).1.lo (A n ⟨a, b⟩).1.lo
def sqH (A : Int → I → I × Int) (f : Bool → F → F → F × Int) (n : Int) (a b : F) : F × Int := f true (A n ⟨a, b⟩).1.hi (A n ⟨a, b⟩).1.hi
theorem rsq2 (A : Int → I → I × Int) (f : Bool → F → F → F × Int) (t : Nat) (n : Int) (a b : F) : takeR 1 ((run Tryz.prog EH (OQS A f) 80).1 74 (.p 0 0 :: [.agg [.fl a, .fl b]]) [⟨t, [.si .i64 n]⟩] (some [false, true, true])) = some (.agg [.fl F.zero, .fl F.zero], [⟨t, [.si .i64 (sqL A f n a b).2]⟩], some [], [(!((sqL A f n a b).2 == 0), true), (!((sqL A f n a b).2 == 0), true), sqO A n a b false]) := by kernel_rfl
theorem rsq3 (A : Int → I → I × Int) (f : Bool → F → F → F × Int) (t : Nat) (n : Int) (a b : F) : takeR 1 ((run Tryz.prog EH (OQS A f) 80).1 74 (.p 0 0 :: [.agg [.fl a, .fl b]]) [⟨t, [.si .i64 n]⟩] (some [false, false, true, true])) = some (.agg [.fl F.zero, .fl F.zero], [⟨t, [.si .i64 (sqH A f n a b).2]⟩], some [], [(!((sqH A f n a b).2 == 0), true), (!((sqH A f n a b).2 == 0), true), (!((sqL A f n a b).2 == 0), false), sqO A n a b false]) := by kernel_rfl
theorem rsq4 (A : Int → I → I × Int) (f : Bool → F → F → F × Int) (t : Nat) (n : Int) (a b : F) : takeR 1 ((run Tryz.prog EH (OQS A f) 80).1 74 (.p 0 0 :: [.agg [.fl a, .fl b]]) [⟨t, [.si .i64 n]⟩] (some [false, false, false, false])) = some (.agg [.fl (sqL A f n a b).1, .fl (sqH A f n a b).1], [⟨t, [.si .i64 (A n ⟨a, b⟩).2]⟩], some [], [sqO A n a b false, (!((sqH A f n a b).2 == 0), false), (!((sqL A f n a b).2 == 0), false), sqO A n a b false]) := by kernel_rfl
theorem abs_sqr (f : Bool → F → F → F × Int) (n : Int) (a b : F) :
    ((!((cAbs n ⟨a, b⟩).2 == 0)) = true → cSqr f n ⟨a, b⟩ = (⟨F.zero, F.zero⟩, (cAbs n ⟨a, b⟩).2)) ∧
    ((!((cAbs n ⟨a, b⟩).2 == 0)) = false → (cAbs n ⟨a, b⟩).2 = 0 ∧ cSqr f n ⟨a, b⟩ = bif !((sqL cAbs f n a b).2 == 0) then (⟨F.zero, F.zero⟩, (sqL cAbs f n a b).2) else bif !((sqH cAbs f n a b).2 == 0) then (⟨F.zero, F.zero⟩, (sqH cAbs f n a b).2) else (⟨(sqL cAbs f n a b).1, (sqH cAbs f n a b).1⟩, 0)) := by
  by_cases hn : n = 0
  · subst hn
    cases h1 : rt ⟨a, b⟩
    · have e : cAbs 0 ⟨a, b⟩ = (I.zero, 20) := by unfold cAbs askI; rw [h1]; rfl
      constructor
      · intro _; rw [e]; unfold cSqr askI; rw [h1]; rfl
      · intro h; rw [e] at h; exact absurd h (by decide)
    · have e : cAbs 0 ⟨a, b⟩ = (bareI ⟨a, b⟩, 0) := by unfold cAbs askI; rw [h1]; rfl
      have e2 : (cAbs 0 ⟨a, b⟩).2 = 0 := by rw [e]
      constructor
      · intro h; rw [e2] at h; cases h
      · intro _
        refine ⟨by rw [e], ?_⟩
        unfold sqL sqH
        rw [e]
        unfold cSqr askI endsI
        rw [h1]
        simp only [show (!((0 : Int) == 0)) = false from rfl, cond_false, cond_true]
        cases hl : (!((f false (bareI ⟨a, b⟩).lo (bareI ⟨a, b⟩).lo).2 == 0))
        · simp only [cond_false]; rfl
        · simp only [cond_true, hl]; rfl
  · have hN : (!(n == 0)) = true := by simp [hn]
    have e : cAbs n ⟨a, b⟩ = (I.zero, n) := by unfold cAbs askI; rw [hN]; rfl
    constructor
    · intro _; rw [e]; unfold cSqr askI; rw [hN]; rfl
    · intro h; rw [e] at h; rw [h] at hN; cases hN
theorem rsqrC : OfOk Tryz.prog 74 (kC (aI KTR.sqr)) := by
  refine ofI fun a b t n => ?_
  show CalcAt _ _ _ _ _ (cSqr dMul n ⟨a, b⟩)
  obtain ⟨s1, s2⟩ := abs_sqr dMul n a b
  cases h : (!((cAbs n ⟨a, b⟩).2 == 0))
  · obtain ⟨e0, e⟩ := s2 h
    rw [e]
    cases hl : (!((sqL cAbs dMul n a b).2 == 0))
    · cases hh : (!((sqH cAbs dMul n a b).2 == 0))
      · exact calc_path goodH oracleQS (rsq4 cAbs dMul t n a b) (obsB_yes h (obsB_yes hh (obsB_yes hl (obsB_yes h obsB_nil)))) (by simp only [cond_false]; rw [e0]) rfl
      · exact calc_path goodH oracleQS (rsq3 cAbs dMul t n a b) (obsB_yes hh (obsB_yes hh (obsB_yes hl (obsB_yes h obsB_nil)))) rfl rfl
    · exact calc_path goodH oracleQS (rsq2 cAbs dMul t n a b) (obsB_yes hl (obsB_yes hl (obsB_yes h obsB_nil))) rfl rfl
  · rw [s1 h]
    exact calc_path goodH oracleQS (rsq1 cAbs dMul t n a b) (obsB_yes h obsB_nil) rfl rfl
/-! row -/
def OGR (K : Kt) : OracleF := lookO [(73, kC (aII K.add)), (46, kC (aII K.sub)), (49, kC (aII K.mul)), (75, kC (aII K.div)), (74, kC (aI K.sqr)), (47, kC (aF K.num))]
theorem oracleGR : OracleOk Tryz.prog (OGR KTR) := .cons raddC (.cons rsubC (.cons rmulC (.cons rdivC (.cons rsqrC (.cons rnumC (.nil _))))))
theorem rrow20Run (K : Kt) (a b : F) (t : Nat) (n : Int) : takeR 1 ((run Tryz.prog EH (OGR K) 100).1 99 [.p 0 0, .agg [.fl a, .fl b], .i .i64 20] [⟨t, [.si .i64 n]⟩] (some [])) =
    some (.agg [.fl (row20 K n ⟨a, b⟩).1.lo, .fl (row20 K n ⟨a, b⟩).1.hi], [⟨t, [.si .i64 (row20 K n ⟨a, b⟩).2]⟩], some [], []) := by kernel_rfl
theorem rrow19Run (K : Kt) (a b : F) (t : Nat) (n : Int) : takeR 1 ((run Tryz.prog EH (OGR K) 100).1 99 [.p 0 0, .agg [.fl a, .fl b], .i .i64 19] [⟨t, [.si .i64 n]⟩] (some [])) =
    some (.agg [.fl (row19 K n ⟨a, b⟩).1.lo, .fl (row19 K n ⟨a, b⟩).1.hi], [⟨t, [.si .i64 (row19 K n ⟨a, b⟩).2]⟩], some [], []) := by kernel_rfl
theorem calc_flowH {O : OracleF} (hO : OracleOk Tryz.prog O) {k : Nat} {g : FuncId} {args : List SV} {t : Nat} {n : Int} {ds ds' : Dec} {ob : Obs} (r : I × Int)
    (h : takeR 1 ((run Tryz.prog EH O k).1 g (.p 0 0 :: args) [⟨t, [.si .i64 n]⟩] ds) = some (.agg [.fl r.1.lo, .fl r.1.hi], [⟨t, [.si .i64 r.2]⟩], ds', ob)) (ho : obsB ob = true) : CalcAt Tryz.prog g args t n r :=
  calc_path goodH hO h ho (pair_eta r) (plain_si _ _)
theorem rrowC_of (R : Kr) (h20 : ∀ a b t n, CalcAt Tryz.prog 99 [.agg [.fl a, .fl b], .i .i64 20] t n (R.r20 n ⟨a, b⟩)) (h19 : ∀ a b t n, CalcAt Tryz.prog 99 [.agg [.fl a, .fl b], .i .i64 19] t n (R.r19 n ⟨a, b⟩)) : OfOk Tryz.prog 99 (kC (aRow R)) := by
  refine ofCalc fun l f hf t n => ?_
  unfold aRow at hf
  split at hf
  · rename_i a b m
    split at hf
    · rename_i e
      have e1 : Int.ofNat m = 20 := by rw [Nat.eq_of_beq_eq_true e]; rfl
      rw [e1]
      simp only [Option.some.injEq] at hf; subst hf
      exact h20 a b t n
    · split at hf
      · rename_i e
        have e1 : Int.ofNat m = 19 := by rw [Nat.eq_of_beq_eq_true e]; rfl
        rw [e1]
        simp only [Option.some.injEq] at hf; subst hf
        exact h19 a b t n
      · cases hf
  · cases hf
theorem rrow20C (a b : F) (t : Nat) (n : Int) : CalcAt Tryz.prog 99 [.agg [.fl a, .fl b], .i .i64 20] t n (row20 KTR n ⟨a, b⟩) := calc_flowH oracleGR _ (rrow20Run KTR a b t n) obsB_nil
theorem rrow19C (a b : F) (t : Nat) (n : Int) : CalcAt Tryz.prog 99 [.agg [.fl a, .fl b], .i .i64 19] t n (row19 KTR n ⟨a, b⟩) := calc_flowH oracleGR _ (rrow19Run KTR a b t n) obsB_nil
theorem rrowC : OfOk Tryz.prog 99 (kC (aRow KRR)) := rrowC_of ⟨row20 KTR, row19 KTR⟩ rrow20C rrow19C
/-! within, Pi, Has -/
theorem rwithRun (l m : F → F → F) (a b : F) (d : Bool) : valR ((run Tryz.prog EH (OQH l m) 60).1 100 [.agg [.fl a, .fl b]] [] (some [d])) = some (bif d then .agg [.fl F.zero, .fl F.zero] else .agg [.fl (m a mone64), .fl (l b one64)], some [], [(decide ((l b one64).k < (m a mone64).k), d)]) := by cases d <;> kernel_rfl
theorem rwithG : PlainOk Tryz.prog 100 (oI1 withI) := by
  intro args ds x ds' ob h ho
  unfold oI1 at h
  split at h
  · rename_i a b
    simp only [Option.some.injEq, Prod.mk.injEq] at h
    obtain ⟨rfl, _, _⟩ := h
    refine ⟨[.agg #[.float .f64 a.b, .float .f64 b.b]], _, rfl, rfl, fun w => ?_⟩
    have hr := rwithRun mnF mxF a b
    cases h1 : decide ((mnF b one64).k < (mxF a mone64).k)
    · rw [show withI ⟨a, b⟩ = ⟨mxF a mone64, mnF b one64⟩ from by simp only [withI, h1, cond_false]]
      exact calls_of_val goodH oracleQH 60 (hr false) (ObsOk.of_B (obsB_yes h1 obsB_nil)) rfl rfl w
    · rw [show withI ⟨a, b⟩ = ⟨F.zero, F.zero⟩ from by simp only [withI, I.zero, h1, cond_true]]
      exact calls_of_val goodH oracleQH 60 (hr true) (ObsOk.of_B (obsB_yes h1 obsB_nil)) rfl rfl w
  · cases h
theorem rhasRun0 (l m : F → F → F) (a b x : F) : valR ((run Tryz.prog EH (OQH l m) 60).1 31 [.agg [.fl a, .fl b], .fl x] [] (some [false])) = some (.b false, some [], [(rt ⟨a, b⟩, false)]) := by kernel_rfl
theorem rhasRun1 (l m : F → F → F) (a b x : F) : valR ((run Tryz.prog EH (OQH l m) 60).1 31 [.agg [.fl a, .fl b], .fl x] [] (some [true, false])) = some (.b false, some [], [(decide (a.k ≤ x.k), false), (rt ⟨a, b⟩, true)]) := by kernel_rfl
theorem rhasRun2 (l m : F → F → F) (a b x : F) (d : Bool) : valR ((run Tryz.prog EH (OQH l m) 60).1 31 [.agg [.fl a, .fl b], .fl x] [] (some [true, true, d])) = some (.b d, some [], [(decide (x.k ≤ b.k), d), (decide (a.k ≤ x.k), true), (rt ⟨a, b⟩, true)]) := by cases d <;> kernel_rfl
theorem rhasG : PlainOk Tryz.prog 31 oHas := by
  intro args ds x ds' ob h ho
  unfold oHas at h
  split at h
  · rename_i a b z
    simp only [Option.map_eq_some_iff, Prod.mk.injEq] at h
    obtain ⟨⟨d, e, o⟩, h1, rfl, rfl, rfl⟩ := h
    have hd : d = hasB ⟨a, b⟩ z := takeB_ok h1 ho
    refine ⟨[.agg #[.float .f64 a.b, .float .f64 b.b], .float .f64 z.b], .bool d, rfl, rfl, fun w => ?_⟩
    subst hd
    cases h1 : rt ⟨a, b⟩
    · rw [show hasB ⟨a, b⟩ z = false from by simp [hasB, h1]]
      exact calls_of_val goodH oracleQH 60 (rhasRun0 mnF mxF a b z) (ObsOk.of_B (obsB_yes h1 obsB_nil)) rfl rfl w
    · cases h2 : decide (a.k ≤ z.k)
      · rw [show hasB ⟨a, b⟩ z = false from by simp [hasB, h1, h2]]
        exact calls_of_val goodH oracleQH 60 (rhasRun1 mnF mxF a b z) (ObsOk.of_B (obsB_yes h2 (obsB_yes h1 obsB_nil))) rfl rfl w
      · rw [show hasB ⟨a, b⟩ z = decide (z.k ≤ b.k) from by simp [hasB, h1, h2]]
        exact calls_of_val goodH oracleQH 60 (rhasRun2 mnF mxF a b z (decide (z.k ≤ b.k))) (ObsOk.of_B (obsB_yes rfl (obsB_yes h2 (obsB_yes h1 obsB_nil)))) rfl rfl w
  · cases h
def OPi (L : F → Int → Nat) : OracleF := lookO [(105, plainO (kLg L))]
theorem oraclePi : OracleOk Tryz.prog (OPi ldW) := .cons lgK.of (.nil _)
def piA : F := toF 4843940237547941144
def piB : F := toF 4843940237547941145
theorem piRun (L : F → Int → Nat) : valR ((run Tryz.prog EH (OPi L) 60).1 98 [] [] (some [true, true])) = some (.agg [.fl (toF (L piA (-51))), .fl (toF (L piB (-51)))], some [], [(true, true), (rightB (L piB (-51)), true), (true, true), (rightB (L piA (-51)), true)]) := by kernel_rfl
theorem pi_lo : toF (ldW piA (-51)) = pi64 := by decide +kernel
theorem pi_hi : toF (ldW piB (-51)) = (KTR.nx pi64 true).1 := by decide +kernel
theorem pi_rb : rightB (ldW piA (-51)) = true ∧ rightB (ldW piB (-51)) = true := by decide +kernel
theorem rpiG : PlainOk Tryz.prog 98 (oConst (.agg [.fl pi64, .fl (KTR.nx pi64 true).1])) := by
  intro args ds x ds' ob h ho
  unfold oConst at h
  split at h
  · simp only [Option.some.injEq, Prod.mk.injEq] at h
    obtain ⟨rfl, _, _⟩ := h
    refine ⟨[], _, rfl, rfl, fun w => ?_⟩
    rw [← pi_hi, ← pi_lo]
    exact calls_of_val goodH oraclePi 60 (piRun ldW) (ObsOk.of_B (obsB_yes rfl (obsB_yes pi_rb.2 (obsB_yes rfl (obsB_yes pi_rb.1 obsB_nil))))) rfl rfl w
  · cases h
end Go.Proofs.YtmhhopfffeijnaaGreat
