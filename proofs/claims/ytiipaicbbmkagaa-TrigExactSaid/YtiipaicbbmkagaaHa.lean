/- Intervals, plain: what package ival works out. -/
import Derived.Test.YtiipaicbbmkagaaGd
import Derived.Test.YtiipaicbbmkagaaFs
import Derived.Test.YtiipaicbbmkagaaRx4
namespace Bu
set_option linter.all false
open Rx

structure I where
  lo : F
  hi : F
def I.zero : I := ⟨F.zero, F.zero⟩
theorem I.ext' {a b : I} (h : a.lo = b.lo) (k : a.hi = b.hi) : a = b := by cases a; cases b; simp at h k; rw [h, k]
/-- is it an interval? -/
def rt (a : I) : Bool := decide (a.lo.k ≤ a.hi.k)
def hasB (a : I) (x : F) : Bool := rt a && decide (a.lo.k ≤ x.k) && decide (x.k ≤ a.hi.k)
/-- as long as there is no error -/
def askI (e : Int) (g : Bool) (r : I × Int) : I × Int := bif !(e == 0) then (I.zero, e) else bif g then (bif !(r.2 == 0) then (I.zero, r.2) else (r.1, e)) else (I.zero, 20)
def endsI (l h : F × Int) : I × Int := bif !(l.2 == 0) then (I.zero, l.2) else (⟨l.1, h.1⟩, h.2)
def hullI (a b : I) : I := ⟨mnF a.lo b.lo, mxF a.hi b.hi⟩
def oneI (f : Bool → F → F → F × Int) (x y : F) : I × Int := endsI (f false x y) (f true x y)
def thenI (r : I × Int) (g : I → I × Int) : I × Int := bif !(r.2 == 0) then (I.zero, r.2) else g r.1
def allI (f : Bool → F → F → F × Int) (a b : I) : I × Int :=
  thenI (oneI f a.lo b.lo) fun p => thenI (oneI f a.lo b.hi) fun q => thenI (oneI f a.hi b.lo) fun r => thenI (oneI f a.hi b.hi) fun s => (hullI (hullI (hullI (hullI p p) q) r) s, 0)
def turnI (a : I) : I := ⟨a.hi.neg, a.lo.neg⟩
def bareI (a : I) : I := bif decide (0 ≤ a.lo.k) then a else bif decide (a.hi.k ≤ 0) then turnI a else ⟨F.zero, mxF a.hi a.lo.neg⟩
def meetI (a b : I) : I := ⟨mxF a.lo b.lo, mnF a.hi b.hi⟩
def minI (a b : I) : I := ⟨mnF a.lo b.lo, mnF a.hi b.hi⟩
def maxI (a b : I) : I := ⟨mxF a.lo b.lo, mxF a.hi b.hi⟩

def cAdd (f : Bool → F → F → F × Int) (e : Int) (a b : I) : I × Int := askI e (rt a && rt b) (endsI (f false a.lo b.lo) (f true a.hi b.hi))
def cSub (f : Bool → F → F → F × Int) (e : Int) (a b : I) : I × Int := askI e (rt a && rt b) (endsI (f false a.lo b.hi) (f true a.hi b.lo))
def cMul (f : Bool → F → F → F × Int) (e : Int) (a b : I) : I × Int := askI e (rt a && rt b) (allI f a b)
def cDiv (f : Bool → F → F → F × Int) (e : Int) (a b : I) : I × Int := askI e (rt a && rt b) (bif hasB b F.zero then (I.zero, 11) else allI f a b)
def cSqr (f : Bool → F → F → F × Int) (e : Int) (a : I) : I × Int := askI e (rt a) (endsI (f false (bareI a).lo (bareI a).lo) (f true (bareI a).hi (bareI a).hi))
def cSqrt (f : Bool → F → F × Int) (e : Int) (a : I) : I × Int := askI e (rt a) (endsI (f false a.lo) (f true a.hi))
def cNum (e : Int) (x : F) : I × Int := askI e true (⟨x, x⟩, 0)
def cNeg (e : Int) (a : I) : I × Int := askI e (rt a) (turnI a, 0)
def cAbs (e : Int) (a : I) : I × Int := askI e (rt a) (bareI a, 0)
def cMin (e : Int) (a b : I) : I × Int := askI e (rt a && rt b) (minI a b, 0)
def cMax (e : Int) (a b : I) : I × Int := askI e (rt a && rt b) (maxI a b, 0)

theorem F.zero_z : F.zero.z = 0 := nvZ_zero
theorem F.zero_k : F.zero.k = 0 := rfl
theorem F.neg_k (x : F) : x.neg.k = -x.k := rfl
theorem F.neg_zero : F.zero.neg = F.zero := F.ext' (by rw [F.neg_k, F.zero_k]; rfl)
/-- 0 less a number is that with the other sign -/
theorem sub_zero_F (b : F) : Ieee.double.sub F.zero.b b.b = some b.neg.b := by
  rw [sub_F, F.zero_z, Int.zero_sub]
  by_cases h : b.k = 0
  · have e : b = F.zero := F.ext' h
    subst e
    rw [if_pos (by rw [F.zero_z]; rfl), F.neg_zero]; rfl
  · have hn : b.neg.k ≠ 0 := by rw [F.neg_k]; omega
    rw [← F.neg_z, if_neg (fun k => hn ((z_zero _).1 k))]
    congr 1
    rw [z_natAbs', near_exact (r := b.neg.k.natAbs) (by decide) (by omega)]
    have := b.neg.hk
    rw [show min b.neg.k.natAbs T = b.neg.k.natAbs from by omega, ← word_sign _ hn]
    congr 1
    exact decide_eq_decide.2 (z_sign _)
end Bu
