/- Sine and cosine, plain: what the laws of trig ask of their values. -/
import Derived.Test.YtiipaicbbmkagaaHd
namespace Bu
set_option linter.all false
open Rx Go

def p1 : F := toF 4591870180066957722
def p3 : F := toF 4599075939470750515
def p15 : F := toF 4609434218613702656
def p58 : F := toF 4603399395113026191
def awakeOb (f : F → I × I) : Obs := [(decide ((toF 0).k < (cosM f p1 p3).hi.k), true), (decide ((cosM f p1 p3).lo.k < (toF 0).k), true), (decide (p58.k < (sinM f p1 p3).lo.k), true),
  (decide ((sinM f p1 p3).hi.k = one64.k), true), (sameI (cosM f (toF 0) one64) ⟨mone64, one64⟩, true), (sameI (sinM f (toF 0) one64) ⟨mone64, one64⟩, true), (exactB f q1 one64 (toF 0), true), (exactB f (toF 0) (toF 0) one64, true),
  (inB q2 p15, false), (inB p1 p3, true), (inB (toF 0) one64, true)]
set_option maxRecDepth 100000 in
theorem awake_ok : obsB (awakeOb atR) = true := by decide +kernel
set_option maxRecDepth 100000 in
theorem exact2 : exactB atR q2 (toF 0) mone64 = true := by decide +kernel
set_option maxRecDepth 100000 in
theorem exact3 : exactB atR q3 mone64 (toF 0) = true := by decide +kernel
set_option maxRecDepth 100000 in
theorem exact4 : exactB atR one64 (toF 0) one64 = true := by decide +kernel
set_option maxRecDepth 100000 in
theorem cos0 : (atR (toF 0)).2.hi.k = one64.k := by decide +kernel
set_option maxRecDepth 100000 in
theorem cos1 : (atR one64).2.hi.k = one64.k := by decide +kernel

theorem one64_k : one64.k = 4607182418800017408 := by decide +kernel
theorem mone64_k : mone64.k = -4607182418800017408 := by decide +kernel
/-- an interval within -1 and 1 -/
structure In1 (a : I) : Prop where
  lo : mone64.k ≤ a.lo.k
  hi : a.hi.k ≤ one64.k
  rt : a.lo.k ≤ a.hi.k
theorem mnF_k (a b : F) : (mnF a b).k = min a.k b.k := by unfold mnF; split <;> omega
theorem mxF_k (a b : F) : (mxF a b).k = max a.k b.k := by unfold mxF; split <;> omega
theorem withI_in (a : I) : In1 (withI a) := by
  have h1 := one64_k
  have h2 := mone64_k
  unfold withI
  cases h : decide ((mnF a.hi one64).k < (mxF a.lo mone64).k)
  · have h3 := of_decide_eq_false h
    rw [cond_false]
    refine ⟨?_, ?_, by simp only; omega⟩
    · simp only [mxF_k]; omega
    · simp only [mnF_k]; omega
  · rw [cond_true]
    refine ⟨?_, ?_, Int.le_refl _⟩
    · show mone64.k ≤ 0; omega
    · show (0 : Int) ≤ one64.k; omega
theorem atP_W {K : Kt} {R : Kr} {W : I → I} {j : Nat} {q x : F} : (∃ a, (atP K R W j q x).1 = W a) ∧ ∃ a, (atP K R W j q x).2 = W a := by
  unfold atP
  dsimp only
  split <;> exact ⟨⟨_, rfl⟩, ⟨_, rfl⟩⟩
theorem atM_W {K : Kt} {R : Kr} {W : I → I} {x : F} : (∃ a, (atM K R W x).1 = W a) ∧ ∃ a, (atM K R W x).2 = W a := by
  unfold atM
  cases decide (x.k < c5.k)
  · cases decide (x.k < c7.k) <;> exact atP_W
  · cases decide (x.k < c3.k)
    · exact atP_W
    · cases decide (x.k < c1.k) <;> exact atP_W
theorem atR_in (x : F) : In1 (atR x).1 ∧ In1 (atR x).2 := by
  unfold atR
  obtain ⟨⟨a, ha⟩, ⟨b, hb⟩⟩ := atM_W (K := KTR) (R := KRR) (W := withI) (x := x)
  rw [ha, hb]
  exact ⟨withI_in a, withI_in b⟩
theorem hull_in {a b : I} (ha : In1 a) (hb : In1 b) : In1 (hullI a b) := by
  have h1 := ha.lo; have h2 := ha.hi; have h3 := ha.rt
  have k1 := hb.lo; have k2 := hb.hi; have k3 := hb.rt
  refine ⟨?_, ?_, ?_⟩ <;> simp only [hullI, mnF_k, mxF_k] <;> omega
theorem one_in : In1 oneI64 := ⟨by rw [mone64_k]; show _ ≤ one64.k; rw [one64_k]; omega, Int.le_refl _, Int.le_refl _⟩
theorem mone_in : In1 moneI := ⟨Int.le_refl _, by rw [one64_k]; show mone64.k ≤ _; rw [mone64_k]; omega, Int.le_refl _⟩
theorem top_in {h : Bool} {a b : I} (ha : In1 a) (hb : In1 b) : In1 (topM h a b) := by
  cases h
  · exact ha
  · exact hull_in ha hb
theorem sinM_in (a b : F) : In1 (sinM atR a b) := top_in (top_in (hull_in (atR_in a).1 (atR_in b).1) one_in) mone_in
theorem cosM_in (a b : F) : In1 (cosM atR a b) := top_in (hull_in (atR_in a).2 (atR_in b).2) mone_in
theorem top_lo {h : Bool} {a b : I} : (topM h a b).lo.k ≤ a.lo.k := by
  cases h
  · exact Int.le_refl _
  · show (mnF a.lo b.lo).k ≤ _; rw [mnF_k]; omega
theorem top_hi {h : Bool} {a b : I} : a.hi.k ≤ (topM h a b).hi.k := by
  cases h
  · exact Int.le_refl _
  · show _ ≤ (mxF a.hi b.hi).k; rw [mxF_k]; omega
theorem sin_top {a b : F} (h : hasB ⟨a, b⟩ q1 = true) : (sinM atR a b).hi.k = one64.k := by
  have h1 := (sinM_in a b).hi
  have h2 : one64.k ≤ (sinM atR a b).hi.k := by
    refine Int.le_trans ?_ top_hi
    rw [h]
    show one64.k ≤ (mxF _ one64).k
    rw [mxF_k]; omega
  omega
theorem sin_bot {a b : F} (h : hasB ⟨a, b⟩ q3 = true) : (sinM atR a b).lo.k = mone64.k := by
  have h1 := (sinM_in a b).lo
  have h2 : (sinM atR a b).lo.k ≤ mone64.k := by
    unfold sinM sinT
    rw [h]
    show (mnF _ mone64).k ≤ _
    rw [mnF_k]; omega
  omega
theorem cos_bot {a b : F} (h : hasB ⟨a, b⟩ q2 = true) : (cosM atR a b).lo.k = mone64.k := by
  have h1 := (cosM_in a b).lo
  have h2 : (cosM atR a b).lo.k ≤ mone64.k := by
    unfold cosM cosT
    rw [h]
    show (mnF _ mone64).k ≤ _
    rw [mnF_k]; omega
  omega
theorem cos_end {a b : F} (h : a.k = (toF 0).k ∨ b.k = one64.k) : (cosM atR a b).hi.k = one64.k := by
  have h1 := (cosM_in a b).hi
  have h2 : one64.k ≤ (cosM atR a b).hi.k := by
    refine Int.le_trans ?_ top_hi
    show one64.k ≤ (mxF _ _).k
    rw [mxF_k]
    rcases h with h | h
    · obtain rfl := F.ext' h; rw [cos0]; omega
    · obtain rfl := F.ext' h; rw [cos1]; omega
  omega
theorem mnF_self (a : F) : mnF a a = a := if_neg (by omega)
theorem mxF_self (a : F) : mxF a a = a := if_neg (by omega)
theorem hull_self (a : I) : hullI a a = a := I.ext' (mnF_self _) (mxF_self _)
/-- an interval without a quarter has ends without one -/
theorem has_end {a b q : F} (h : hasB ⟨a, b⟩ q = false) (hr : rt ⟨a, b⟩ = true) : hasB ⟨a, a⟩ q = false ∧ hasB ⟨b, b⟩ q = false := by
  have h3 := of_decide_eq_true hr
  simp only [hasB, hr, Bool.true_and, Bool.and_eq_false_iff, decide_eq_false_iff_not] at h
  simp only at h3
  constructor
  · simp only [hasB, Bool.and_eq_false_iff, decide_eq_false_iff_not]
    have := h3; omega
  · simp only [hasB, Bool.and_eq_false_iff, decide_eq_false_iff_not]
    omega
theorem sin_ends {a b : F} (hr : rt ⟨a, b⟩ = true) (h1 : hasB ⟨a, b⟩ q1 = false) (h3 : hasB ⟨a, b⟩ q3 = false) : sinM atR a b = hullI (sinM atR a a) (sinM atR b b) := by
  unfold sinM
  rw [h1, h3, (has_end h1 hr).1, (has_end h1 hr).2, (has_end h3 hr).1, (has_end h3 hr).2]
  simp only [sinT, topM, cond_false, hull_self]
theorem cos_ends {a b : F} (hr : rt ⟨a, b⟩ = true) (h2 : hasB ⟨a, b⟩ q2 = false) : cosM atR a b = hullI (cosM atR a a) (cosM atR b b) := by
  unfold cosM
  rw [h2, (has_end h2 hr).1, (has_end h2 hr).2]
  simp only [cosT, topM, cond_false, hull_self]
theorem inB_ends {a b : F} (h : inB a b = true) : inB a a = true ∧ inB b b = true := by
  unfold inB rt at *
  simp only [Bool.and_eq_true, decide_eq_true_iff] at *
  omega
end Bu
