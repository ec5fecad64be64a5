/- burnishref04: sine and cosine, as the document tells them; row TrigTells. burnishref04, by the reckoner: row, within, At, SinCos; row TrigTells. burnishref04, by the reckoner: At, SinCos; row TrigTells. -/
import Derived.Test.YtmhhopfffeijnaaGreatZ23
import Derived.Test.YtmhhopfffeijnaaGreatZ12
namespace Bu
set_option linter.all false
open Rx Go

def atSt (K : Kt) (R : Kr) (t : I × Int) : I × Int := K.mul (R.r20 t.2 t.1).2 t.1 (R.r20 t.2 t.1).1
def atCt (K : Kt) (R : Kr) (t : I × Int) : I × Int := R.r19 (atSt K R t).2 t.1
def atPt (K : Kt) (R : Kr) (W : I → I) (j : Nat) (t : I × Int) : I × I :=
  match j with
  | 0 => (W (atSt K R t).1, W (atCt K R t).1)
  | 1 => (W (atCt K R t).1, W (K.neg (atCt K R t).2 (atSt K R t).1).1)
  | 2 => (W (K.neg (atCt K R t).2 (atSt K R t).1).1, W (K.neg (K.neg (atCt K R t).2 (atSt K R t).1).2 (atCt K R t).1).1)
  | _ => (W (K.neg (atCt K R t).2 (atCt K R t).1).1, W (atSt K R t).1)
theorem atP_t (K : Kt) (R : Kr) (W : I → I) (j : Nat) (q x : F) : atP K R W j q x = atPt K R W j (atT K q x) := by
  unfold atP atPt atSt atCt atS atC
  match j with
  | 0 => rfl
  | 1 => rfl
  | 2 => rfl
  | n + 3 => rfl
/-- the document's angle: the difference first -/
def ratT (K : Kt) (q x : F) : I × Int :=
  K.mul (K.add (K.sub (K.num (K.num 0 x).2 q).2 (K.num 0 x).1 (K.num (K.num 0 x).2 q).1).2 ⟨pi64, (K.nx pi64 true).1⟩ ⟨pi64, (K.nx pi64 true).1⟩).2 (K.add (K.sub (K.num (K.num 0 x).2 q).2 (K.num 0 x).1 (K.num (K.num 0 x).2 q).1).2 ⟨pi64, (K.nx pi64 true).1⟩ ⟨pi64, (K.nx pi64 true).1⟩).1 (K.sub (K.num (K.num 0 x).2 q).2 (K.num 0 x).1 (K.num (K.num 0 x).2 q).1).1
theorem mul_e0 {f : Bool → F → F → F × Int} {e : Int} {a b : I} (h : (cMul f e a b).2 = 0) : e = 0 := by
  apply Decidable.byContradiction
  intro k
  unfold cMul askI at h
  have : (!(e == 0)) = true := by simp [k]
  rw [this] at h
  exact k h
theorem ratT_eq {q x : F} (h1 : -(1 / 8) ≤ x.q - q.q) (h2 : x.q - q.q ≤ 1 / 8) (b1 : 0 ≤ x.q) (b2 : x.q ≤ 1) (b3 : 0 ≤ q.q) (b4 : q.q ≤ 1) : ratT KTR q x = atT KTR q x := by
  obtain ⟨t, e, _⟩ := atT_ok h1 h2 b1 b2 b3 b4
  have f1 : KTR.add 0 ⟨pi64, (KTR.nx pi64 true).1⟩ ⟨pi64, (KTR.nx pi64 true).1⟩ = (TAU, 0) := tau_eq
  have f2 : KTR.num 0 x = (⟨x, x⟩, 0) := cNum_ok x
  have f3 : KTR.num 0 q = (⟨q, q⟩, 0) := cNum_ok q
  have e' := e
  unfold atT at e'
  simp only [f1, f2, f3] at e'
  have d0 : (KTR.sub 0 ⟨x, x⟩ ⟨q, q⟩).2 = 0 := mul_e0 (f := dMul) (show (KTR.mul (KTR.sub 0 ⟨x, x⟩ ⟨q, q⟩).2 TAU (KTR.sub 0 ⟨x, x⟩ ⟨q, q⟩).1).2 = 0 from congrArg Prod.snd e')
  rw [e]
  unfold ratT
  simp only [f2, f3, d0, f1]
  rw [d0] at e'
  exact e'
def ratM (K : Kt) (R : Kr) (W : I → I) (x : F) : I × I :=
  bif decide (c1.k ≤ x.k) then (bif decide (c3.k ≤ x.k) then (bif decide (c5.k ≤ x.k) then (bif decide (c7.k ≤ x.k) then atPt K R W 0 (ratT K one64 x) else atPt K R W 3 (ratT K q3 x)) else atPt K R W 2 (ratT K q2 x)) else atPt K R W 1 (ratT K q1 x)) else atPt K R W 0 (ratT K (toF 0) x)
theorem ratM_eq {x : F} (b1 : 0 ≤ x.q) (b2 : x.q ≤ 1) : ratM KTR KRR withI x = atR x := by
  obtain ⟨k1, k3, k5, k7, g1, g2, g3, g0⟩ := consts
  have lt : ∀ c : F, decide (c.k ≤ x.k) = false → x.q < c.q ∧ decide (x.k < c.k) = true := fun c h => by
    have := of_decide_eq_false h
    exact ⟨q_lt.2 (by omega), decide_eq_true (by omega)⟩
  have ge : ∀ c : F, decide (c.k ≤ x.k) = true → c.q ≤ x.q ∧ decide (x.k < c.k) = false := fun c h => by
    have := of_decide_eq_true h
    exact ⟨q_le.2 (by omega), decide_eq_false (by omega)⟩
  have oq := one_q
  unfold ratM atR atM
  cases h1 : decide (c1.k ≤ x.k)
  · obtain ⟨l1, d1⟩ := lt _ h1
    have d3 : decide (x.k < c3.k) = true := decide_eq_true (q_lt.1 (by grind))
    have d5 : decide (x.k < c5.k) = true := decide_eq_true (q_lt.1 (by grind))
    rw [d5, d3, d1]
    simp only [cond_true, cond_false]
    rw [atP_t, ratT_eq (by grind) (by grind) b1 b2 (by grind) (by grind)]
  · obtain ⟨l1, d1⟩ := ge _ h1
    cases h3 : decide (c3.k ≤ x.k)
    · obtain ⟨l3, d3⟩ := lt _ h3
      have d5 : decide (x.k < c5.k) = true := decide_eq_true (q_lt.1 (by grind))
      rw [d5, d3, d1]
      simp only [cond_true, cond_false]
      rw [atP_t, ratT_eq (by grind) (by grind) b1 b2 (by grind) (by grind)]
    · obtain ⟨l3, d3⟩ := ge _ h3
      cases h5 : decide (c5.k ≤ x.k)
      · obtain ⟨l5, d5⟩ := lt _ h5
        rw [d5, d3]
        simp only [cond_true, cond_false]
        rw [atP_t, ratT_eq (by grind) (by grind) b1 b2 (by grind) (by grind)]
      · obtain ⟨l5, d5⟩ := ge _ h5
        cases h7 : decide (c7.k ≤ x.k)
        · obtain ⟨l7, d7⟩ := lt _ h7
          rw [d5, d7]
          simp only [cond_true, cond_false]
          rw [atP_t, ratT_eq (by grind) (by grind) b1 b2 (by grind) (by grind)]
        · obtain ⟨l7, d7⟩ := ge _ h7
          rw [d5, d7]
          simp only [cond_true, cond_false]
          rw [atP_t, ratT_eq (by rw [oq]; grind) (by rw [oq]; grind) b1 b2 (by rw [oq]; grind) (by rw [oq]; grind)]
def kAtR (f : F → I × I) : List SV → Dec → Option (SV × Dec × Obs)
  | [.fl x], ds => some (.tup [.agg [.fl (f x).1.lo, .fl (f x).1.hi], .agg [.fl (f x).2.lo, .fl (f x).2.hi]], ds, [(decide ((toF 0).k ≤ x.k ∧ x.k ≤ one64.k), true)])
  | _, _ => none
end Bu
namespace Go.Proofs.YtmhhopfffeijnaaGreat
set_option linter.all false
open Go.RowKit Bu Rx

theorem raddC : OfOk Tryz.prog 73 (kC (aII KTR.add)) := radd_I raddG
theorem rsubC : OfOk Tryz.prog 46 (kC (aII KTR.sub)) := rsub_I rsubG
theorem rmulC : OfOk Tryz.prog 49 (kC (aII KTR.mul)) := rmul_I rmulG
theorem rdivC : OfOk Tryz.prog 75 (kC (aII KTR.div)) := rdiv_I rdivG
theorem rnumC : OfOk Tryz.prog 47 (kC (aF KTR.num)) := rnum_I
theorem rnegC : OfOk Tryz.prog 76 (kC (aI KTR.neg)) := rneg_I
def OQS (A : Int → I → I × Int) (f : Bool → F → F → F × Int) : OracleF := lookO [(153, kC (aI A)), (134, plainO (kTwo f))]
theorem oracleQS : OracleOk Tryz.prog (OQS cAbs dMul) := .cons rabs_I (.cons rmulG.of (.nil _))
def sqO (A : Int → I → I × Int) (n : Int) (a b : F) (d : Bool) : Bool × Bool := (!((A n ⟨a, b⟩).2 == 0), d)
theorem rsq1 (A : Int → I → I × Int) (f : Bool → F → F → F × Int) (t : Nat) (n : Int) (a b : F) : takeR 1 ((run Tryz.prog EH (OQS A f) 80).1 74 (.p 0 0 :: [.agg [.fl a, .fl b]]) [⟨t, [.si .i64 n]⟩] (some [true])) = some (.agg [.fl F.zero, .fl F.zero], [⟨t, [.si .i64 (A n ⟨a, b⟩).2]⟩], some [], [sqO A n a b true]) := by kernel_rfl
def sqL (A : Int → I → I × Int) (f : Bool → F → F → F × Int) (n : Int) (a b : F) : F × Int := f false (A n ⟨a, b⟩).1.lo (A n ⟨a, b⟩).1.lo
def sqH (A : Int → I → I × Int) (f : Bool → F → F → F × Int) (n : Int) (a b : F) : F × Int := f true (A n ⟨a, b⟩).1.hi (A n ⟨a, b⟩).1.hi
theorem rsq2 (A : Int → I → I × Int) (f : Bool → F → F → F × Int) (t : Nat) (n : Int) (a b : F) : takeR 1 ((run Tryz.prog EH (OQS A f) 80).1 74 (.p 0 0 :: [.agg [.fl a, .fl b]]) [⟨t, [.si .i64 n]⟩] (some [false, true, true])) = some (.agg [.fl F.zero, .fl F.zero], [⟨t, [.si .i64 (sqL A f n a b).2]⟩], some [], [(!((sqL A f n a b).2 == 0), true), (!((sqL A f n a b).2 == 0), true), sqO A n a b false]) := by kernel_rfl
theorem rsq3 (A : Int → I → I × Int) (f : Bool → F → F → F × Int) (t : Nat) (n : Int) (a b : F) : takeR 1 ((run Tryz.prog EH (OQS A f) 80).1 74 (.p 0 0 :: [.agg [.fl a, .fl b]]) [⟨t, [.si .i64 n]⟩] (some [false, false, true, true])) = some (.agg [.fl F.zero, .fl F.zero], [⟨t, [.si .i64 (sqH A f n a b).2]⟩], some [], [(!((sqH A f n a b).2 == 0), true), (!((sqH A f n a b).2 == 0), true), (!((sqL A f n a b).2 == 0), false), sqO A n a b false]) := by kernel_rfl
theorem rsq4 (A : Int → I → I × Int) (f : Bool → F → F → F × Int) (t : Nat) (n : Int) (a b : F) : takeR 1 ((run Tryz.prog EH (OQS A f) 80).1 74 (.p 0 0 :: [.agg [.fl a, .fl b]]) [⟨t, [.si .i64 n]⟩] (some [false, false, false, false])) = some (.agg [.fl (sqL A f n a b).1, .fl (sqH A f n a b).1], [⟨t, [.si .i64 (A n ⟨a, b⟩).2]⟩], some [], [sqO A n a b false, (!((sqH A f n a b).2 == 0), false), (!((sqL A f n a b).2 == 0), false), sqO A n a b false]) := by kernel_rfl
theorem abs_sqr (f : Bool → F → F → F × Int) (n : Int) (a b : F) :
    ((!((cAbs n ⟨a, b⟩).2 == 0)) = true → cSqr f n ⟨a, b⟩ = (⟨F.zero, F.zero⟩, (cAbs n ⟨a, b⟩).2)) ∧
    ((!((cAbs n ⟨a, b⟩).2 == 0)) = false → (cAbs n ⟨a, b⟩).2 = 0 ∧ cSqr f n ⟨a, b⟩ = bif !((sqL cAbs f n a b).2 == 0) then (⟨F.zero, F.zero⟩, (sqL cAbs f n a b).2) else bif !((sqH cAbs f n a b).2 == 0) then (⟨F.zero, F.zero⟩, (sqH cAbs f n a b).2) else (⟨(sqL cAbs f n a b).1, (sqH cAbs f n a b).1⟩, 0)) := by
  by_cases hn : n = 0
  · subst hn
    cases h1 : rt ⟨a, b⟩
    · have e : cAbs 0 ⟨a, b⟩ = (I.zero, 20) := by unfold cAbs askI; rw [h1]; rfl
      constructor
      · intro _; rw [e]; unfold cSqr askI; rw [h1]; rfl
      · intro h; rw [e] at h; exact absurd h (by decide)
    · have e : cAbs 0 ⟨a, b⟩ = (bareI ⟨a, b⟩, 0) := by unfold cAbs askI; rw [h1]; rfl
      have e2 : (cAbs 0 ⟨a, b⟩).2 = 0 := by rw [e]
      constructor
      · intro h; rw [e2] at h; cases h
      · intro _
        refine ⟨by rw [e], ?_⟩
        unfold sqL sqH
        rw [e]
        unfold cSqr askI endsI
        rw [h1]
        simp only [show (!((0 : Int) == 0)) = false from rfl, cond_false, cond_true]
        cases hl : (!((f false (bareI ⟨a, b⟩).lo (bareI ⟨a, b⟩).lo).2 == 0))
        · simp only [cond_false]; rfl
        · simp only [cond_true, hl]; rfl
  · have hN : (!(n == 0)) = true := by simp [hn]
    have e : cAbs n ⟨a, b⟩ = (I.zero, n) := by unfold cAbs askI; rw [hN]; rfl
    constructor
    · intro _; rw [e]; unfold cSqr askI; rw [hN]; rfl
    · intro h; rw [e] at h; rw [h] at hN; cases hN
theorem rsqrC : OfOk Tryz.prog 74 (kC (aI KTR.sqr)) := by
  refine ofI fun a b t n => ?_
  show CalcAt _ _ _ _ _ (cSqr dMul n ⟨a, b⟩)
  obtain ⟨s1, s2⟩ := abs_sqr dMul n a b
  cases h : (!((cAbs n ⟨a, b⟩).2 == 0))
  · obtain ⟨e0, e⟩ := s2 h
    rw [e]
    cases hl : (!((sqL cAbs dMul n a b).2 == 0))
    · cases hh : (!((sqH cAbs dMul n a b).2 == 0))
      · exact calc_path goodH oracleQS (rsq4 cAbs dMul t n a b) (obsB_yes h (obsB_yes hh (obsB_yes hl (obsB_yes h obsB_nil)))) (by simp only [cond_false]; rw [e0]) rfl
      · exact calc_path goodH oracleQS (rsq3 cAbs dMul t n a b) (obsB_yes hh (obsB_yes hh (obsB_yes hl (obsB_yes h obsB_nil)))) rfl rfl
    · exact calc_path goodH oracleQS (rsq2 cAbs dMul t n a b) (obsB_yes hl (obsB_yes hl (obsB_yes h obsB_nil))) rfl rfl
  · rw [s1 h]
    exact calc_path goodH oracleQS (rsq1 cAbs dMul t n a b) (obsB_yes h obsB_nil) rfl rfl
def OGR (K : Kt) : OracleF := lookO [(73, kC (aII K.add)), (46, kC (aII K.sub)), (49, kC (aII K.mul)), (75, kC (aII K.div)), (74, kC (aI K.sqr)), (47, kC (aF K.num))]
theorem oracleGR : OracleOk Tryz.prog (OGR KTR) := .cons raddC (.cons rsubC (.cons rmulC (.cons rdivC (.cons rsqrC (.cons rnumC (.nil _))))))
theorem rrow20Run (K : Kt) (a b : F) (t : Nat) (n : Int) : takeR 1 ((run Tryz.prog EH (OGR K) 100).1 99 [.p 0 0, .agg [.fl a, .fl b], .i .i64 20] [⟨t, [.si .i64 n]⟩] (some [])) =
    some (.agg [.fl (row20 K n ⟨a, b⟩).1.lo, .fl (row20 K n ⟨a, b⟩).1.hi], [⟨t, [.si .i64 (row20 K n ⟨a, b⟩).2]⟩], some [], []) := by kernel_rfl
theorem rrow19Run (K : Kt) (a b : F) (t : Nat) (n : Int) : takeR 1 ((run Tryz.prog EH (OGR K) 100).1 99 [.p 0 0, .agg [.fl a, .fl b], .i .i64 19] [⟨t, [.si .i64 n]⟩] (some [])) =
    some (.agg [.fl (row19 K n ⟨a, b⟩).1.lo, .fl (row19 K n ⟨a, b⟩).1.hi], [⟨t, [.si .i64 (row19 K n ⟨a, b⟩).2]⟩], some [], []) := by kernel_rfl
theorem calc_flowH {O : OracleF} (hO : OracleOk Tryz.prog O) {k : Nat} {g : FuncId} {args : List SV} {t : Nat} {n : Int} {ds ds' : Dec} {ob : Obs} (r : I × Int)
    (h : takeR 1 ((run Tryz.prog EH O k).1 g (.p 0 0 :: args) [⟨t, [.si .i64 n]⟩] ds) = some (.agg [.fl r.1.lo, .fl r.1.hi], [⟨t, [.si .i64 r.2]⟩], ds', ob)) (ho : obsB ob = true) : CalcAt Tryz.prog g args t n r :=
  calc_path goodH hO h ho (pair_eta r) (plain_si _ _)
theorem rrowC_of (R : Kr) (h20 : ∀ a b t n, CalcAt Tryz.prog 99 [.agg [.fl a, .fl b], .i .i64 20] t n (R.r20 n ⟨a, b⟩)) (h19 : ∀ a b t n, CalcAt Tryz.prog 99 [.agg [.fl a, .fl b], .i .i64 19] t n (R.r19 n ⟨a, b⟩)) : OfOk Tryz.prog 99 (kC (aRow R)) := by
  refine ofCalc fun l f hf t n => ?_
  unfold aRow at hf
  split at hf
  · rename_i a b m
    split at hf
    · rename_i e
      have e1 : Int.ofNat m = 20 := by rw [Nat.eq_of_beq_eq_true e]; rfl
      rw [e1]
      simp only [Option.some.injEq] at hf; subst hf
      exact h20 a b t n
    · split at hf
      · rename_i e
        have e1 : Int.ofNat m = 19 := by rw [Nat.eq_of_beq_eq_true e]; rfl
        rw [e1]
        simp only [Option.some.injEq] at hf; subst hf
        exact h19 a b t n
      · cases hf
  · cases hf
theorem rrow20C (a b : F) (t : Nat) (n : Int) : CalcAt Tryz.prog 99 [.agg [.fl a, .fl b], .i .i64 20] t n (row20 KTR n ⟨a, b⟩) := calc_flowH oracleGR _ (rrow20Run KTR a b t n) obsB_nil
theorem rrow19C (a b : F) (t : Nat) (n : Int) : CalcAt Tryz.prog 99 [.agg [.fl a, .fl b], .i .i64 19] t n (row19 KTR n ⟨a, b⟩) := calc_flowH oracleGR _ (rrow19Run KTR a b t n) obsB_nil
theorem rrowC : OfOk Tryz.prog 99 (kC (aRow KRR)) := rrowC_of ⟨row20 KTR, row19 KTR⟩ rrow20C rrow19C
theorem rwithRun (l m : F → F → F) (a b : F) (d : Bool) : valR ((run Tryz.prog EH (OQH l m) 60).1 100 [.agg [.fl a, .fl b]] [] (some [d])) = some (bif d then .agg [.fl F.zero, .fl F.zero] else .agg [.fl (m a mone64), .fl (l b one64)], some [], [(decide ((l b one64).k < (m a mone64).k), d)]) := by cases d <;> kernel_rfl
theorem rwithG : PlainOk Tryz.prog 100 (oI1 withI) := by
  intro args ds x ds' ob h ho
  unfold oI1 at h
  split at h
  · rename_i a b
    simp only [Option.some.injEq, Prod.mk.injEq] at h
    obtain ⟨rfl, _, _⟩ := h
    refine ⟨[.agg #[.float .f64 a.b, .float .f64 b.b]], _, rfl, rfl, fun w => ?_⟩
    have hr := rwithRun mnF mxF a b
    cases h1 : decide ((mnF b one64).k < (mxF a mone64).k)
    · rw [show withI ⟨a, b⟩ = ⟨mxF a mone64, mnF b one64⟩ from by simp only [withI, h1, cond_false]]
      exact calls_of_val goodH oracleQH 60 (hr false) (ObsOk.of_B (obsB_yes h1 obsB_nil)) rfl rfl w
    · rw [show withI ⟨a, b⟩ = ⟨F.zero, F.zero⟩ from by simp only [withI, I.zero, h1, cond_true]]
      exact calls_of_val goodH oracleQH 60 (hr true) (ObsOk.of_B (obsB_yes h1 obsB_nil)) rfl rfl w
  · cases h
theorem rhasRun0 (l m : F → F → F) (a b x : F) : valR ((run Tryz.prog EH (OQH l m) 60).1 31 [.agg [.fl a, .fl b], .fl x] [] (some [false])) = some (.b false, some [], [(rt ⟨a, b⟩, false)]) := by kernel_rfl
theorem rhasRun1 (l m : F → F → F) (a b x : F) : valR ((run Tryz.prog EH (OQH l m) 60).1 31 [.agg [.fl a, .fl b], .fl x] [] (some [true, false])) = some (.b false, some [], [(decide (a.k ≤ x.k), false), (rt ⟨a, b⟩, true)]) := by kernel_rfl
theorem rhasRun2 (l m : F → F → F) (a b x : F) (d : Bool) : valR ((run Tryz.prog EH (OQH l m) 60).1 31 [.agg [.fl a, .fl b], .fl x] [] (some [true, true, d])) = some (.b d, some [], [(decide (x.k ≤ b.k), d), (decide (a.k ≤ x.k), true), (rt ⟨a, b⟩, true)]) := by cases d <;> kernel_rfl
theorem rhasG : PlainOk Tryz.prog 31 oHas := by
  intro args ds x ds' ob h ho
  unfold oHas at h
  split at h
  · rename_i a b z
    simp only [Option.map_eq_some_iff, Prod.mk.injEq] at h
    obtain ⟨⟨d, e, o⟩, h1, rfl, rfl, rfl⟩ := h
    have hd : d = hasB ⟨a, b⟩ z := takeB_ok h1 ho
    refine ⟨[.agg #[.float .f64 a.b, .float .f64 b.b], .float .f64 z.b], .bool d, rfl, rfl, fun w => ?_⟩
    subst hd
    cases h1 : rt ⟨a, b⟩
    · rw [show hasB ⟨a, b⟩ z = false from by simp [hasB, h1]]
      exact calls_of_val goodH oracleQH 60 (rhasRun0 mnF mxF a b z) (ObsOk.of_B (obsB_yes h1 obsB_nil)) rfl rfl w
    · cases h2 : decide (a.k ≤ z.k)
      · rw [show hasB ⟨a, b⟩ z = false from by simp [hasB, h1, h2]]
        exact calls_of_val goodH oracleQH 60 (rhasRun1 mnF mxF a b z) (ObsOk.of_B (obsB_yes h2 (obsB_yes h1 obsB_nil))) rfl rfl w
      · rw [show hasB ⟨a, b⟩ z = decide (z.k ≤ b.k) from by simp [hasB, h1, h2]]
        exact calls_of_val goodH oracleQH 60 (rhasRun2 mnF mxF a b z (decide (z.k ≤ b.k))) (ObsOk.of_B (obsB_yes rfl (obsB_yes h2 (obsB_yes h1 obsB_nil)))) rfl rfl w
  · cases h
def ORPi (L : F → Int → Nat) : OracleF := lookO [(105, plainO (kLg L))]
theorem oracleRPi : OracleOk Tryz.prog (ORPi ldW) := .cons lgK.of (.nil _)
def piA : F := toF 4843940237547941144
def piB : F := toF 4843940237547941145
theorem rpiRun (L : F → Int → Nat) : valR ((run Tryz.prog EH (ORPi L) 60).1 98 [] [] (some [true, true])) = some (.agg [.fl (toF (L piA (-51))), .fl (toF (L piB (-51)))], some [], [(true, true), (rightB (L piB (-51)), true), (true, true), (rightB (L piA (-51)), true)]) := by kernel_rfl
theorem pi_lo : toF (ldW piA (-51)) = pi64 := by decide +kernel
theorem pi_hi : toF (ldW piB (-51)) = (KTR.nx pi64 true).1 := by decide +kernel
theorem pi_rb : rightB (ldW piA (-51)) = true ∧ rightB (ldW piB (-51)) = true := by decide +kernel
theorem rpiG : PlainOk Tryz.prog 98 (oConst (.agg [.fl pi64, .fl (KTR.nx pi64 true).1])) := by
  intro args ds x ds' ob h ho
  unfold oConst at h
  split at h
  · simp only [Option.some.injEq, Prod.mk.injEq] at h
    obtain ⟨rfl, _, _⟩ := h
    refine ⟨[], _, rfl, rfl, fun w => ?_⟩
    rw [← pi_hi, ← pi_lo]
    exact calls_of_val goodH oracleRPi 60 (rpiRun ldW) (ObsOk.of_B (obsB_yes rfl (obsB_yes pi_rb.2 (obsB_yes rfl (obsB_yes pi_rb.1 obsB_nil))))) rfl rfl w
  · cases h
end Go.Proofs.YtmhhopfffeijnaaGreat
namespace Go.Proofs.YtmhhopfffeijnaaGreat
set_option linter.all false
open Go.RowKit Bu Rx

def OAR (K : Kt) (R : Kr) (W : I → I) : OracleF := lookO [(98, plainO (oConst (.agg [.fl pi64, .fl (K.nx pi64 true).1]))), (73, kC (aII K.add)), (46, kC (aII K.sub)), (49, kC (aII K.mul)), (76, kC (aI K.neg)), (47, kC (aF K.num)), (99, kC (aRow R)), (100, plainO (oI1 W))]
theorem oracleAR : OracleOk Tryz.prog (OAR KTR KRR withI) := .cons rpiG.of (.cons raddC (.cons rsubC (.cons rmulC (.cons rnegC (.cons rnumC (.cons rrowC (.cons rwithG.of (.nil _))))))))
theorem ratRun0 (K : Kt) (R : Kr) (W : I → I) (x : F) : valR ((run Tryz.prog EH (OAR K R W) 100).1 29 [.fl x] [] (some [false])) = some (.tup [.agg [.fl (atPt K R W 0 (ratT K (toF 0) x)).1.lo, .fl (atPt K R W 0 (ratT K (toF 0) x)).1.hi], .agg [.fl (atPt K R W 0 (ratT K (toF 0) x)).2.lo, .fl (atPt K R W 0 (ratT K (toF 0) x)).2.hi]], some [], [(true, true), (true, true), (decide (c1.k ≤ x.k), false), (true, true), (true, true)]) := by kernel_rfl
theorem ratRun1 (K : Kt) (R : Kr) (W : I → I) (x : F) : valR ((run Tryz.prog EH (OAR K R W) 100).1 29 [.fl x] [] (some [true, false])) = some (.tup [.agg [.fl (atPt K R W 1 (ratT K q1 x)).1.lo, .fl (atPt K R W 1 (ratT K q1 x)).1.hi], .agg [.fl (atPt K R W 1 (ratT K q1 x)).2.lo, .fl (atPt K R W 1 (ratT K q1 x)).2.hi]], some [], [(true, true), (true, true), (decide (c3.k ≤ x.k), false), (true, true), (true, true), (decide (c1.k ≤ x.k), true), (true, true), (true, true)]) := by kernel_rfl
theorem ratRun2 (K : Kt) (R : Kr) (W : I → I) (x : F) : valR ((run Tryz.prog EH (OAR K R W) 100).1 29 [.fl x] [] (some [true, true, false])) = some (.tup [.agg [.fl (atPt K R W 2 (ratT K q2 x)).1.lo, .fl (atPt K R W 2 (ratT K q2 x)).1.hi], .agg [.fl (atPt K R W 2 (ratT K q2 x)).2.lo, .fl (atPt K R W 2 (ratT K q2 x)).2.hi]], some [], [(true, true), (true, true), (decide (c5.k ≤ x.k), false), (true, true), (true, true), (decide (c3.k ≤ x.k), true), (true, true), (true, true), (decide (c1.k ≤ x.k), true), (true, true), (true, true)]) := by kernel_rfl
theorem ratRun3 (K : Kt) (R : Kr) (W : I → I) (x : F) : valR ((run Tryz.prog EH (OAR K R W) 100).1 29 [.fl x] [] (some [true, true, true, false])) = some (.tup [.agg [.fl (atPt K R W 3 (ratT K q3 x)).1.lo, .fl (atPt K R W 3 (ratT K q3 x)).1.hi], .agg [.fl (atPt K R W 3 (ratT K q3 x)).2.lo, .fl (atPt K R W 3 (ratT K q3 x)).2.hi]], some [], [(true, true), (true, true), (decide (c7.k ≤ x.k), false), (true, true), (true, true), (decide (c5.k ≤ x.k), true), (true, true), (true, true), (decide (c3.k ≤ x.k), true), (true, true), (true, true), (decide (c1.k ≤ x.k), true), (true, true), (true, true)]) := by kernel_rfl
theorem ratRun4 (K : Kt) (R : Kr) (W : I → I) (x : F) : valR ((run Tryz.prog EH (OAR K R W) 100).1 29 [.fl x] [] (some [true, true, true, true])) = some (.tup [.agg [.fl (atPt K R W 0 (ratT K one64 x)).1.lo, .fl (atPt K R W 0 (ratT K one64 x)).1.hi], .agg [.fl (atPt K R W 0 (ratT K one64 x)).2.lo, .fl (atPt K R W 0 (ratT K one64 x)).2.hi]], some [], [(true, true), (true, true), (decide (c7.k ≤ x.k), true), (true, true), (true, true), (decide (c5.k ≤ x.k), true), (true, true), (true, true), (decide (c3.k ≤ x.k), true), (true, true), (true, true), (decide (c1.k ≤ x.k), true), (true, true), (true, true)]) := by kernel_rfl
theorem ratGM : PlainOk Tryz.prog 29 (kAtR (ratM KTR KRR withI)) := by
  intro args ds x ds' ob h ho
  unfold kAtR at h
  split at h
  · rename_i x
    simp only [Option.some.injEq, Prod.mk.injEq] at h
    obtain ⟨rfl, _, _⟩ := h
    refine ⟨[.float .f64 x.b], _, rfl, rfl, fun w => ?_⟩
    unfold ratM
    cases h0 : decide (c1.k ≤ x.k)
    · exact calls_of_val goodH oracleAR 100 (ratRun0 KTR KRR withI x) (ObsOk.of_B (obsB_yes rfl (obsB_yes rfl (obsB_yes h0 (obsB_yes rfl (obsB_yes rfl (obsB_nil))))))) rfl rfl w
    · skip
      cases h1 : decide (c3.k ≤ x.k)
      · exact calls_of_val goodH oracleAR 100 (ratRun1 KTR KRR withI x) (ObsOk.of_B (obsB_yes rfl (obsB_yes rfl (obsB_yes h1 (obsB_yes rfl (obsB_yes rfl (obsB_yes h0 (obsB_yes rfl (obsB_yes rfl (obsB_nil)))))))))) rfl rfl w
      · skip
        cases h2 : decide (c5.k ≤ x.k)
        · exact calls_of_val goodH oracleAR 100 (ratRun2 KTR KRR withI x) (ObsOk.of_B (obsB_yes rfl (obsB_yes rfl (obsB_yes h2 (obsB_yes rfl (obsB_yes rfl (obsB_yes h1 (obsB_yes rfl (obsB_yes rfl (obsB_yes h0 (obsB_yes rfl (obsB_yes rfl (obsB_nil))))))))))))) rfl rfl w
        · skip
          cases h3 : decide (c7.k ≤ x.k)
          · exact calls_of_val goodH oracleAR 100 (ratRun3 KTR KRR withI x) (ObsOk.of_B (obsB_yes rfl (obsB_yes rfl (obsB_yes h3 (obsB_yes rfl (obsB_yes rfl (obsB_yes h2 (obsB_yes rfl (obsB_yes rfl (obsB_yes h1 (obsB_yes rfl (obsB_yes rfl (obsB_yes h0 (obsB_yes rfl (obsB_yes rfl (obsB_nil)))))))))))))))) rfl rfl w
          · exact calls_of_val goodH oracleAR 100 (ratRun4 KTR KRR withI x) (ObsOk.of_B (obsB_yes rfl (obsB_yes rfl (obsB_yes h3 (obsB_yes rfl (obsB_yes rfl (obsB_yes h2 (obsB_yes rfl (obsB_yes rfl (obsB_yes h1 (obsB_yes rfl (obsB_yes rfl (obsB_yes h0 (obsB_yes rfl (obsB_yes rfl (obsB_nil)))))))))))))))) rfl rfl w
  · cases h
theorem k_q {x : F} (h : decide ((toF 0).k ≤ x.k ∧ x.k ≤ one64.k) = true) : 0 ≤ x.q ∧ x.q ≤ 1 := by
  have := of_decide_eq_true h
  refine ⟨?_, ?_⟩
  · have h0 := q_le.2 this.1
    rw [show (toF 0).q = 0 from by decide +kernel] at h0
    exact h0
  · have h1 := q_le.2 this.2
    rw [one_q] at h1
    exact h1
theorem ratG : PlainOk Tryz.prog 29 (kAtR atR) := by
  intro args ds x ds' ob h ho
  unfold kAtR at h
  split at h
  · rename_i x
    simp only [Option.some.injEq, Prod.mk.injEq] at h
    obtain ⟨rfl, rfl, rfl⟩ := h
    obtain ⟨b1, b2⟩ := k_q (ho _ (List.mem_cons_self ..))
    rw [← ratM_eq b1 b2]
    exact ratGM [.fl x] ds _ ds _ rfl ho
  · cases h
def rSet (f : F → I × I) : OracleF := lookO [(28, plainO oRt), (31, plainO oHas), (30, plainO (oI2 hullI)), (29, plainO (kAtR f))]
theorem oracleRS : OracleOk Tryz.prog (rSet atR) := .cons rrtG.of (.cons rhasG.of (.cons rhullG.of (.cons ratG.of (.nil _))))
theorem rscRun0 (f : F → I × I) (a b : F) : valR ((run Tryz.prog EH (rSet f) 100).1 7 [.agg [.fl a, .fl b]] [] (some [false])) = some (noSC, some [], [(rt ⟨a, b⟩, false)]) := by kernel_rfl
theorem rscRun1 (f : F → I × I) (a b : F) : valR ((run Tryz.prog EH (rSet f) 100).1 7 [.agg [.fl a, .fl b]] [] (some [true, true])) = some (noSC, some [], [(decide (a.k < (toF 0).k), true), (rt ⟨a, b⟩, true)]) := by kernel_rfl
theorem rscRun2 (f : F → I × I) (a b : F) : valR ((run Tryz.prog EH (rSet f) 100).1 7 [.agg [.fl a, .fl b]] [] (some [true, false, true])) = some (noSC, some [], [(decide (one64.k < b.k), true), (decide (a.k < (toF 0).k), false), (rt ⟨a, b⟩, true)]) := by kernel_rfl
theorem rscRun3 (f : F → I × I) (a b : F) (h1 h2 h3 : Bool) : valR ((run Tryz.prog EH (rSet f) 100).1 7 [.agg [.fl a, .fl b]] [] (some [true, false, false, h1, h3, h2])) =
    some (.tup [.agg [.fl (sinT f h1 h3 a b).lo, .fl (sinT f h1 h3 a b).hi], .agg [.fl (cosT f h2 a b).lo, .fl (cosT f h2 a b).hi], .i .i64 0], some [],
      [(hasB ⟨a, b⟩ q2, h2), (hasB ⟨a, b⟩ q3, h3), (hasB ⟨a, b⟩ q1, h1), (decide ((toF 0).k ≤ b.k ∧ b.k ≤ one64.k), true), (decide ((toF 0).k ≤ a.k ∧ a.k ≤ one64.k), true), (decide (one64.k < b.k), false), (decide (a.k < (toF 0).k), false), (rt ⟨a, b⟩, true)]) := by cases h1 <;> cases h2 <;> cases h3 <;> kernel_rfl
theorem rscG : PlainOk Tryz.prog 7 (oSC atR) := by
  intro args ds x ds' ob h ho
  unfold oSC at h
  split at h
  · rename_i a b
    simp only [Option.map_eq_some_iff, Prod.mk.injEq] at h
    obtain ⟨⟨d, e, o⟩, h1, rfl, rfl, rfl⟩ := h
    have hd : d = inB a b := takeB_ok h1 ho
    cases hi : inB a b
    · rw [hi] at hd; subst hd
      refine ⟨[.agg #[.float .f64 a.b, .float .f64 b.b]], _, rfl, rfl, fun w => ?_⟩
      cases g1 : rt ⟨a, b⟩
      · exact calls_of_val goodH oracleRS 100 (rscRun0 atR a b) (ObsOk.of_B (obsB_yes g1 obsB_nil)) rfl rfl w
      · cases g2 : decide (a.k < (toF 0).k)
        · refine calls_of_val goodH oracleRS 100 (rscRun2 atR a b) (ObsOk.of_B (obsB_yes ?_ (obsB_yes g2 (obsB_yes g1 obsB_nil)))) rfl rfl w
          have g3 := of_decide_eq_false g2
          unfold inB at hi
          rw [g1, show decide ((toF 0).k ≤ a.k) = true from decide_eq_true (by omega), Bool.true_and, Bool.true_and] at hi
          have g4 := of_decide_eq_false hi
          exact decide_eq_true (by omega)
        · exact calls_of_val goodH oracleRS 100 (rscRun1 atR a b) (ObsOk.of_B (obsB_yes g2 (obsB_yes g1 obsB_nil))) rfl rfl w
    · rw [hi] at hd; subst hd
      refine ⟨[.agg #[.float .f64 a.b, .float .f64 b.b]], _, rfl, rfl, fun w => ?_⟩
      unfold inB at hi
      rw [Bool.and_eq_true, Bool.and_eq_true, decide_eq_true_iff, decide_eq_true_iff] at hi
      have hab : a.k ≤ b.k := of_decide_eq_true hi.1.1
      exact calls_of_val goodH oracleRS 100 (rscRun3 atR a b _ _ _) (ObsOk.of_B (obsB_yes rfl (obsB_yes rfl (obsB_yes rfl (obsB_yes (decide_eq_true (by omega)) (obsB_yes (decide_eq_true (by omega)) (obsB_yes (decide_eq_false (by omega)) (obsB_yes (decide_eq_false (by omega)) (obsB_yes hi.1.1 obsB_nil))))))))) rfl rfl w
  · cases h
theorem rscK : PlainOk Tryz.prog 7 (kSC (NR atR).ib (NR atR).si (NR atR).co) := rscG
end Go.Proofs.YtmhhopfffeijnaaGreat
