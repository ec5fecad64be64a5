/- burnishref04: sine and cosine, as the document tells them; row TrigTells. -/
import Derived.Test.YtmhhopfffeijnaaGreatNs
import Derived.Test.YtmhhopfffeijnaaGreatHi
namespace Bu
set_option linter.all false
open Rx Go

/-! of the angle -/
def atSt (K : Kt) (R : Kr) (t : I × Int) : I × Int := K.mul (R.r20 t.2 t.1).2 t.1 (R.r20 t.2 t.1).1
def atCt (K : Kt) (R : Kr) (t : I × Int) : I × Int := R.r19 (atSt K R t).2 t.1
def atPt (K : Kt) (R : Kr) (W : I → I) (j : Nat) (t : I × Int) : I × I :=
  match j with
  | 0 => (W (atSt K R t).1, W (atCt K R t).1)
  | 1 => (W (atCt K R t).1, W (K.neg (atCt K R t).2 (atSt K R t).1).1)
  | 2 => (W (K.neg (atCt K R t).2 (atSt K R t).1).1, W (K.neg (K.neg (atCt K R t).2 (atSt K R t).1).2 (atCt K R t).1).1)
  | _ => (W (K.neg (atCt K R t).2 (atCt K R t).1).1, W (atSt K R t).1)
theorem atP_t (K : Kt) (R : Kr) (W : I → I) (j : Nat) (q x : F) : atP K R W j q x = atPt K R W j (atT K q x) := by
  unfold atP atPt atSt atCt atS atC
  match j with
  | 0 => rfl
  | 1 => rfl
  | 2 => rfl
  | n + 3 => rfl
/-- the document's angle: the difference first -/
def ratT (K : Kt) (q x : F) : I × Int :=
  K.mul (K.add (K.sub (K.num (K.num 0 x).2 q).2 (K.num 0 x).1 (K.num (K.num 0 x).2 q).1).2 ⟨pi64, (K.nx pi64 true).1⟩ ⟨pi64, (K.nx pi64 true).1⟩).2 (K.add (K.sub (K.num (K.num 0 x).2 q).2 (K.num 0 x).1 (K.num (K.num 0 x).2 q).1).2 ⟨pi64, (K.nx pi64 true).1⟩ ⟨pi64, (K.nx pi64 true).1⟩).1 (K.sub (K.num (K.num 0 x).2 q).2 (K.num 0 x).1 (K.num (K.num 0 x).2 q).1).1
theorem mul_e0 {f : Bool → F → F → F × Int} {e : Int} {a b : I} (h : (cMul f e a b).2 = 0) : e = 0 := by
  apply Decidable.byContradiction
  intro k
  unfold cMul askI at h
  have : (!(e == 0)) = true := by simp [k]
  rw [this] at h
  exact k h
theorem ratT_eq {q x : F} (h1 : -(1 / 8) ≤ x.q - q.q) (h2 : x.q - q.q ≤ 1 / 8) (b1 : 0 ≤ x.q) (b2 : x.q ≤ 1) (b3 : 0 ≤ q.q) (b4 : q.q ≤ 1) : ratT KTR q x = atT KTR q x := by
  obtain ⟨t, e, _⟩ := atT_ok h1 h2 b1 b2 b3 b4
  have f1 : KTR.add 0 ⟨pi64, (KTR.nx pi64 true).1⟩ ⟨pi64, (KTR.nx pi64 true).1⟩ = (TAU, 0) := tau_eq
  have f2 : KTR.num 0 x = (⟨x, x⟩, 0) := cNum_ok x
  have f3 : KTR.num 0 q = (⟨q, q⟩, 0) := cNum_ok q
  have e' := e
  unfold atT at e'
  simp only [f1, f2, f3] at e'
  have d0 : (KTR.sub 0 ⟨x, x⟩ ⟨q, q⟩).2 = 0 := mul_e0 (f := dMul) (show (KTR.mul (KTR.sub 0 ⟨x, x⟩ ⟨q, q⟩).2 TAU (KTR.sub 0 ⟨x, x⟩ ⟨q, q⟩).1).2 = 0 from congrArg Prod.snd e')
  rw [e]
  unfold ratT
  simp only [f2, f3, d0, f1]
  rw [d0] at e'
  exact e'
def ratM (K : Kt) (R : Kr) (W : I → I) (x : F) : I × I :=
  bif decide (c1.k ≤ x.k) then (bif decide (c3.k ≤ x.k) then (bif decide (c5.k ≤ x.k) then (bif decide (c7.k ≤ x.k) then atPt K R W 0 (ratT K one64 x) else atPt K R W 3 (ratT K q3 x)) else atPt K R W 2 (ratT K q2 x)) else atPt K R W 1 (ratT K q1 x)) else atPt K R W 0 (ratT K (toF 0) x)
theorem ratM_eq {x : F} (b1 : 0 ≤ x.q) (b2 : x.q ≤ 1) : ratM KTR KRR withI x = atR x := by
  obtain ⟨k1, k3, k5, k7, g1, g2, g3, g0⟩ := consts
  have lt : ∀ c : F, decide (c.k ≤ x.k) = false → x.q < c.q ∧ decide (x.k < c.k) = true := fun c h => by
    have := of_decide_eq_false h
    exact ⟨q_lt.2 (by omega), decide_eq_true (by omega)⟩
  have ge : ∀ c : F, decide (c.k ≤ x.k) = true → c.q ≤ x.q ∧ decide (x.k < c.k) = false := fun c h => by
    have := of_decide_eq_true h
    exact ⟨q_le.2 (by omega), decide_eq_false (by omega)⟩
  have oq := one_q
  unfold ratM atR atM
  cases h1 : decide (c1.k ≤ x.k)
  · obtain ⟨l1, d1⟩ := lt _ h1
    have d3 : decide (x.k < c3.k) = true := decide_eq_true (q_lt.1 (by grind))
    have d5 : decide (x.k < c5.k) = true := decide_eq_true (q_lt.1 (by grind))
    rw [d5, d3, d1]
    simp only [cond_true, cond_false]
    rw [atP_t, ratT_eq (by grind) (by grind) b1 b2 (by grind) (by grind)]
  · obtain ⟨l1, d1⟩ := ge _ h1
    cases h3 : decide (c3.k ≤ x.k)
    · obtain ⟨l3, d3⟩ := lt _ h3
      have d5 : decide (x.k < c5.k) = true := decide_eq_true (q_lt.1 (by grind))
      rw [d5, d3, d1]
      simp only [cond_true, cond_false]
      rw [atP_t, ratT_eq (by grind) (by grind) b1 b2 (by grind) (by grind)]
    · obtain ⟨l3, d3⟩ := ge _ h3
      cases h5 : decide (c5.k ≤ x.k)
      · obtain ⟨l5, d5⟩ := lt _ h5
        rw [d5, d3]
        simp only [cond_true, cond_false]
        rw [atP_t, ratT_eq (by grind) (by grind) b1 b2 (by grind) (by grind)]
      · obtain ⟨l5, d5⟩ := ge _ h5
        cases h7 : decide (c7.k ≤ x.k)
        · obtain ⟨l7, d7⟩ := lt _ h7
          rw [d5, d7]
          simp only [cond_true, cond_false]
          rw [atP_t, ratT_eq (by grind) (by grind) b1 b2 (by grind) (by grind)]
        · obtain ⟨l7, d7⟩ := ge _ h7
          rw [d5, d7]
          simp only [cond_true, cond_false]
          rw [atP_t, ratT_eq (by rw [oq]; grind) (by rw [oq]; grind) b1 b2 (by rw [oq]; grind) (by rw [oq]; grind)]
def kAtR (f : F → I × I) : List SV → Dec → Option (SV × Dec × Obs)
  | [.fl x], ds => some (.tup [.agg [.fl (f x).1.lo, .fl (f x).1.hi], .agg [.fl (f x).2.lo, .fl (f x).2.hi]], ds, [(decide ((toF 0).k ≤ x.k ∧ x.k ≤ one64.k), true)])
  | _, _ => none
end Bu
