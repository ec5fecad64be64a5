/- Intervals, plain: what package ival works out. The reckoner: functions that keep an error behind a pointer. Sine and cosine, plain: what package trig works out, over any operations on intervals. Sine and cosine, plain: what the laws of trig ask of their values. -/
import Derived.Test.YtlhlcefkmhhmjaaGreatZ07
import Derived.Test.YtlhlcefkmhhmjaaGreatZ11
import Derived.Test.YtlhlcefkmhhmjaaGreatZ04
import Derived.Test.YtlhlcefkmhhmjaaGreatZ06
namespace Bu
set_option linter.all false
open Rx

structure I where
  lo : F
  hi : F
def I.zero : I := ⟨F.zero, F.zero⟩
theorem I.ext' {a b : I} (h : a.lo = b.lo) (k : a.hi = b.hi) : a = b := by cases a; cases b; simp at h k; rw [h, k]
/-- is it an interval? -/
def rt (a : I) : Bool := decide (a.lo.k ≤ a.hi.k)
def hasB (a : I) (x : F) : Bool := rt a && decide (a.lo.k ≤ x.k) && decide (x.k ≤ a.hi.k)
/-- as long as there is no error -/
def askI (e : Int) (g : Bool) (r : I × Int) : I × Int := bif !(e == 0) then (I.zero, e) else bif g then (bif !(r.2 == 0) then (I.zero, r.2) else (r.1, e)) else (I.zero, 20)
def endsI (l h : F × Int) : I × Int := bif !(l.2 == 0) then (I.zero, l.2) else (⟨l.1, h.1⟩, h.2)
def hullI (a b : I) : I := ⟨mnF a.lo b.lo, mxF a.hi b.hi⟩
def oneI (f : Bool → F → F → F × Int) (x y : F) : I × Int := endsI (f false x y) (f true x y)
def thenI (r : I × Int) (g : I → I × Int) : I × Int := bif !(r.2 == 0) then (I.zero, r.2) else g r.1
def allI (f : Bool → F → F → F × Int) (a b : I) : I × Int :=
  thenI (oneI f a.lo b.lo) fun p => thenI (oneI f a.lo b.hi) fun q => thenI (oneI f a.hi b.lo) fun r => thenI (oneI f a.hi b.hi) fun s => (hullI (hullI (hullI (hullI p p) q) r) s, 0)
def turnI (a : I) : I := ⟨a.hi.neg, a.lo.neg⟩
def bareI (a : I) : I := bif decide (0 ≤ a.lo.k) then a else bif decide (a.hi.k ≤ 0) then turnI a else ⟨F.zero, mxF a.hi a.lo.neg⟩
def maxI (a b : I) : I := ⟨mxF a.lo b.lo, mxF a.hi b.hi⟩

def cAdd (f : Bool → F → F → F × Int) (e : Int) (a b : I) : I × Int := askI e (rt a && rt b) (endsI (f false a.lo b.lo) (f true a.hi b.hi))
def cSub (f : Bool → F → F → F × Int) (e : Int) (a b : I) : I × Int := askI e (rt a && rt b) (endsI (f false a.lo b.hi) (f true a.hi b.lo))
def cMul (f : Bool → F → F → F × Int) (e : Int) (a b : I) : I × Int := askI e (rt a && rt b) (allI f a b)
def cDiv (f : Bool → F → F → F × Int) (e : Int) (a b : I) : I × Int := askI e (rt a && rt b) (bif hasB b F.zero then (I.zero, 11) else allI f a b)
def cSqr (f : Bool → F → F → F × Int) (e : Int) (a : I) : I × Int := askI e (rt a) (endsI (f false (bareI a).lo (bareI a).lo) (f true (bareI a).hi (bareI a).hi))
def cSqrt (f : Bool → F → F × Int) (e : Int) (a : I) : I × Int := askI e (rt a) (endsI (f false a.lo) (f true a.hi))
def cNum (e : Int) (x : F) : I × Int := askI e true (⟨x, x⟩, 0)
def cNeg (e : Int) (a : I) : I × Int := askI e (rt a) (turnI a, 0)
def cMax (e : Int) (a b : I) : I × Int := askI e (rt a && rt b) (maxI a b, 0)

theorem F.zero_z : F.zero.z = 0 := nvZ_zero
theorem F.zero_k : F.zero.k = 0 := rfl
theorem F.neg_k (x : F) : x.neg.k = -x.k := rfl
theorem F.neg_zero : F.zero.neg = F.zero := F.ext' (by rw [F.neg_k, F.zero_k]; rfl)
/-- 0 less a number is that with the other sign -/
theorem sub_zero_F (b : F) : Ieee.double.sub F.zero.b b.b = some b.neg.b := by
  rw [sub_F, F.zero_z, Int.zero_sub]
  by_cases h : b.k = 0
  · have e : b = F.zero := F.ext' h
    subst e
    rw [if_pos (by rw [F.zero_z]; rfl), F.neg_zero]; rfl
  · have hn : b.neg.k ≠ 0 := by rw [F.neg_k]; omega
    rw [← F.neg_z, if_neg (fun k => hn ((z_zero _).1 k))]
    congr 1
    rw [z_natAbs', near_exact (r := b.neg.k.natAbs) (by decide) (by omega)]
    have := b.neg.hk
    rw [show min b.neg.k.natAbs T = b.neg.k.natAbs from by omega, ← word_sign _ hn]
    congr 1
    exact decide_eq_decide.2 (z_sign _)
end Bu
namespace Rx
set_option linter.all false
open Go Bu

theorem den_si {m : Nat → Option Nat} {c : SV} {k : IntKind} {n : Int} (h : intS c = some (k, n)) : den m c = some (.int k n) := den_plain (intS_plain h)

/-- the first blocks of what is left -/
def takeR (j : Nat) (r : Option (SV × List Blk × Dec × Obs)) : Option (SV × List Blk × Dec × Obs) :=
  match r with
  | some (x, M, ds, ob) => some (x, M.take j, ds, ob)
  | none => none

theorem CallPost.take {m m' : Nat → Option Nat} {w w' : World} {M M1 M2 : List Blk} {x x2 : SV} {v u : Value} (h : CallPost m w M x M1 m' v w') (hM : MemAt m w M)
    (hl : M.length ≤ M2.length) (h2 : ∀ (n : Nat) (b : Blk), M2[n]? = some b → ∃ b1 cv, M1[n]? = some b1 ∧ b1.elem = b.elem ∧ plains b1.cells = some cv ∧ plains b.cells = some cv)
    (hx : plain x = some u) (hx2 : plain x2 = some u) : CallPost m w M x2 M2 (fun n => if n < M2.length then m' n else none) v w' := by
  have hv : u = v := by have := den_plain (m := m') hx; rw [h.val] at this; exact (Option.some.inj this).symm
  subst hv
  have hm2 : ∀ n r, (if n < M2.length then m' n else none) = some r → m' n = some r ∧ n < M2.length := by
    intro n r hr
    split at hr
    · rename_i hlt; exact ⟨hr, hlt⟩
    · cases hr
  refine ⟨?_, den_plain hx2, ⟨⟨?_, ?_⟩, ?_, ?_⟩, hl, h.fr, ?_⟩
  · intro n r hr
    have hn := hM.dom n r hr
    show (if n < M2.length then m' n else none) = some r
    rw [if_pos (by omega)]; exact h.ext n r hr
  · intro i j r h1 h3
    exact h.mem.ok.inj i j r (hm2 i r h1).1 (hm2 j r h3).1
  · intro i r h1
    exact h.mem.ok.lt i r (hm2 i r h1).1
  · intro n b hb
    obtain ⟨b1, cv, e1, e2, e3, e4⟩ := h2 n b hb
    obtain ⟨r, hr, cv', e5, e6⟩ := h.mem.blk n b1 e1
    have hn : n < M2.length := by
      rcases Nat.lt_or_ge n M2.length with h' | h'
      · exact h'
      · rw [List.getElem?_eq_none h'] at hb; cases hb
    refine ⟨r, by show (if n < M2.length then m' n else none) = some r; rw [if_pos hn]; exact hr, cv, dens_plains e4, ?_⟩
    have e7 := dens_plains (m := m') e3
    rw [e5] at e7
    rw [e6, e2, Option.some.inj e7]
  · intro n r hr
    exact (hm2 n r hr).2
  · intro n r hr
    exact h.new n r (hm2 n r hr).1

/-- a call that works out an interval, beside an error that is kept -/
def CalcAt (P : Program) (g : FuncId) (args : List SV) (t : Nat) (n : Int) (r : I × Int) : Prop :=
  ∀ m w vs, dens m (.p 0 0 :: args) = some vs → MemAt m w [⟨t, [.si .i64 n]⟩] →
    Calls P g vs.toArray w fun e w' => ∃ m' v, e = .returned v ∧ CallPost m w [⟨t, [.si .i64 n]⟩] (.agg [.fl r.1.lo, .fl r.1.hi]) [⟨t, [.si .i64 r.2]⟩] m' v w'
theorem calc_path {P : Program} {E : ExtF} {O : OracleF} (hP : Good P E) (hO : OracleOk P O) {k : Nat} {g : FuncId} {args : List SV} {t : Nat} {n : Int} {ds ds' : Dec} {x y : F} {c : SV} {e' : Int} {ob : Obs} {r : I × Int}
    (h : takeR 1 ((run P E O k).1 g (.p 0 0 :: args) [⟨t, [.si .i64 n]⟩] ds) = some (.agg [.fl x, .fl y], [⟨t, [c]⟩], ds', ob)) (ho : obsB ob = true) (hr : r = (⟨x, y⟩, e')) (hc : plain c = some (.int .i64 e')) : CalcAt P g args t n r := by
  intro m w vs hvs hM
  unfold takeR at h
  split at h
  · rename_i x1 M1 d1 o1 hrun
    simp only [Option.some.injEq, Prod.mk.injEq] at h
    obtain ⟨rfl, hM1, rfl, rfl⟩ := h
    refine Calls.mono ((run_ok hP hO k).1 g _ _ _ _ _ _ _ hrun (ObsOk.of_B ho) m w vs hvs hM) fun e w' ⟨m', v, he, hp⟩ => ?_
    subst hr
    have h0 : M1[0]? = some ⟨t, [c]⟩ := by
      have := congrArg (fun l => l[0]?) hM1
      simpa using this
    have key := hp.take (M2 := [⟨t, [.si .i64 e']⟩]) (x2 := .agg [.fl x, .fl y]) hM (Nat.le_refl _) (fun j b hb => ?_) rfl rfl
    · exact ⟨_, v, he, key⟩
    have hj : j = 0 := by
      rcases Nat.lt_or_ge j 1 with h' | h'
      · omega
      · rw [List.getElem?_eq_none (by simpa using h')] at hb; cases hb
    subst hj
    simp only [List.getElem?_cons_zero, Option.some.injEq] at hb
    subst hb
    exact ⟨_, [.int .i64 e'], h0, rfl, plains_cons hc plains_nil, rfl⟩
  · cases h

/-- as a known function -/
def kC (op : List SV → Option (Int → I × Int)) : OF := fun args M ds =>
  match args, M with
  | .p 0 0 :: l, [⟨t, [c]⟩] => match op l, intS c with
    | some f, some (.i64, n) => some (.agg [.fl (f n).1.lo, .fl (f n).1.hi], [⟨t, [.si .i64 (f n).2]⟩], ds, [])
    | _, _ => none
  | _, _ => none
theorem ofCalc {P : Program} {g : FuncId} {op : List SV → Option (Int → I × Int)} (h : ∀ l f, op l = some f → ∀ t n, CalcAt P g l t n (f n)) : OfOk P g (kC op) := by
  intro args M ds x M' ds' ob hk ho m w vs hvs hM
  unfold kC at hk
  split at hk
  · rename_i l t c
    split at hk
    · rename_i f n hf hc
      simp only [Option.some.injEq, Prod.mk.injEq] at hk
      obtain ⟨rfl, rfl, _, _⟩ := hk
      have hM2 : MemAt m w [⟨t, [.si .i64 n]⟩] := by
        refine ⟨hM.ok, fun j b hb => ?_, hM.dom⟩
        have hj : j = 0 := by
          rcases Nat.lt_or_ge j 1 with h' | h'
          · omega
          · rw [List.getElem?_eq_none (by simpa using h')] at hb; cases hb
        subst hj
        simp only [List.getElem?_cons_zero, Option.some.injEq] at hb
        subst hb
        obtain ⟨r, hr, cv, h1, h2⟩ := hM.blk 0 _ rfl
        refine ⟨r, hr, cv, ?_, h2⟩
        rw [← h1]
        simp only [dens, den_si hc, den]
      refine Calls.mono (h l f hf t n m w vs hvs hM2) fun e w' ⟨m', v, he, hp⟩ => ⟨m', v, he, ⟨hp.ext, hp.val, hp.mem, hp.len, hp.fr, hp.new⟩⟩
    · cases hk
  · cases hk

def aI (op : Int → I → I × Int) : List SV → Option (Int → I × Int)
  | [.agg [.fl a, .fl b]] => some fun n => op n ⟨a, b⟩
  | _ => none
def aII (op : Int → I → I → I × Int) : List SV → Option (Int → I × Int)
  | [.agg [.fl a, .fl b], .agg [.fl c, .fl d]] => some fun n => op n ⟨a, b⟩ ⟨c, d⟩
  | _ => none
def aF (op : Int → F → I × Int) : List SV → Option (Int → I × Int)
  | [.fl a] => some fun n => op n a
  | _ => none
theorem ofI {P : Program} {g : FuncId} {op : Int → I → I × Int} (h : ∀ a b t n, CalcAt P g [.agg [.fl a, .fl b]] t n (op n ⟨a, b⟩)) : OfOk P g (kC (aI op)) := by
  refine ofCalc fun l f hf => ?_
  unfold aI at hf
  split at hf
  · simp only [Option.some.injEq] at hf; subst hf; exact h _ _
  · cases hf
theorem ofII {P : Program} {g : FuncId} {op : Int → I → I → I × Int} (h : ∀ a b c d t n, CalcAt P g [.agg [.fl a, .fl b], .agg [.fl c, .fl d]] t n (op n ⟨a, b⟩ ⟨c, d⟩)) : OfOk P g (kC (aII op)) := by
  refine ofCalc fun l f hf => ?_
  unfold aII at hf
  split at hf
  · simp only [Option.some.injEq] at hf; subst hf; exact h _ _ _ _
  · cases hf
theorem ofF {P : Program} {g : FuncId} {op : Int → F → I × Int} (h : ∀ a t n, CalcAt P g [.fl a] t n (op n a)) : OfOk P g (kC (aF op)) := by
  refine ofCalc fun l f hf => ?_
  unfold aF at hf
  split at hf
  · simp only [Option.some.injEq] at hf; subst hf; exact h _
  · cases hf

def oRt : List SV → Dec → Option (SV × Dec × Obs)
  | [.agg [.fl a, .fl b]], ds => (takeB ds (rt ⟨a, b⟩)).map fun r => (.b r.1, r.2.1, r.2.2)
  | _, _ => none
def oHas : List SV → Dec → Option (SV × Dec × Obs)
  | [.agg [.fl a, .fl b], .fl x], ds => (takeB ds (hasB ⟨a, b⟩ x)).map fun r => (.b r.1, r.2.1, r.2.2)
  | _, _ => none
def oI1 (f : I → I) : List SV → Dec → Option (SV × Dec × Obs)
  | [.agg [.fl a, .fl b]], ds => some (.agg [.fl (f ⟨a, b⟩).lo, .fl (f ⟨a, b⟩).hi], ds, [])
  | _, _ => none
def oI2 (f : I → I → I) : List SV → Dec → Option (SV × Dec × Obs)
  | [.agg [.fl a, .fl b], .agg [.fl c, .fl d]], ds => some (.agg [.fl (f ⟨a, b⟩ ⟨c, d⟩).lo, .fl (f ⟨a, b⟩ ⟨c, d⟩).hi], ds, [])
  | _, _ => none
end Rx
namespace Bu
set_option linter.all false
open Rx Go

/-- operations on intervals: behind an error, and with one -/
structure Kt where
  add : Int → I → I → I × Int
  sub : Int → I → I → I × Int
  mul : Int → I → I → I × Int
  div : Int → I → I → I × Int
  sqr : Int → I → I × Int
  neg : Int → I → I × Int
  num : Int → F → I × Int
  nx : F → Bool → F × Int

def one64 : F := toF 4607182418800017408
def mone64 : F := toF 13830554455654793216
def pi64 : F := toF 4614256656552045848
def withI (a : I) : I := bif decide ((mnF a.hi one64).k < (mxF a.lo mone64).k) then I.zero else ⟨mxF a.lo mone64, mnF a.hi one64⟩
def kNx (f : F → Bool → F × Int) : List SV → Dec → Option (SV × Dec × Obs)
  | [.fl x, .b up], ds => some (.tup [.fl (f x up).1, .si .i64 (f x up).2], ds, [])
  | _, _ => none
def pDiv (up : Bool) (a b : F) : F × Int := if b.k = 0 then (F.zero, 11) else dDiv up a b
def KTR : Kt where
  add := cAdd dAdd
  sub := cSub dSub
  mul := cMul dMul
  div := cDiv pDiv
  sqr := cSqr dMul
  neg := cNeg
  num := cNum
  nx := nextF
def c1 : F := toF 4593671619917905920
def c3 : F := toF 4600427019358961664
def c5 : F := toF 4603804719079489536
def c7 : F := toF 4606056518893174784
def q1 : F := toF 4598175219545276416
def q2 : F := toF 4602678819172646912
def q3 : F := toF 4604930618986332160
def sameW (a b : F) : Bool := decide ((a.b : Int) = (b.b : Int))
def kBI (p : I → Bool) : List SV → Dec → Option (SV × Dec × Obs)
  | [.agg [.fl a, .fl b]], ds => (takeB ds (p ⟨a, b⟩)).map fun r => (.b r.1, r.2.1, r.2.2)
  | _, _ => none
def kBII (p : I → I → Bool) : List SV → Dec → Option (SV × Dec × Obs)
  | [.agg [.fl a, .fl b], .agg [.fl c, .fl d]], ds => (takeB ds (p ⟨a, b⟩ ⟨c, d⟩)).map fun r => (.b r.1, r.2.1, r.2.2)
  | _, _ => none
end Bu
namespace Bu
set_option linter.all false
open Rx Go

def p1 : F := toF 4591870180066957722
def p3 : F := toF 4599075939470750515
theorem one64_k : one64.k = 4607182418800017408 := by decide +kernel
theorem mone64_k : mone64.k = -4607182418800017408 := by decide +kernel
/-- an interval within -1 and 1 -/
structure In1 (a : I) : Prop where
  lo : mone64.k ≤ a.lo.k
  hi : a.hi.k ≤ one64.k
  rt : a.lo.k ≤ a.hi.k
theorem mnF_k (a b : F) : (mnF a b).k = min a.k b.k := by unfold mnF; split <;> omega
theorem mxF_k (a b : F) : (mxF a b).k = max a.k b.k := by unfold mxF; split <;> omega
theorem withI_in (a : I) : In1 (withI a) := by
  have h1 := one64_k
  have h2 := mone64_k
  unfold withI
  cases h : decide ((mnF a.hi one64).k < (mxF a.lo mone64).k)
  · have h3 := of_decide_eq_false h
    rw [cond_false]
    refine ⟨?_, ?_, by simp only; omega⟩
    · simp only [mxF_k]; omega
    · simp only [mnF_k]; omega
  · rw [cond_true]
    refine ⟨?_, ?_, Int.le_refl _⟩
    · show mone64.k ≤ 0; omega
    · show (0 : Int) ≤ one64.k; omega
end Bu
