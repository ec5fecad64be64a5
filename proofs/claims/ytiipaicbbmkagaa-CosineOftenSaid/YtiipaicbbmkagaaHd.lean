/- Sine and cosine, plain: what package trig works out, over any operations on intervals. -/
import Derived.Test.YtiipaicbbmkagaaHb
namespace Bu
set_option linter.all false
open Rx Go

/-- operations on intervals: behind an error, and with one -/
structure Kt where
  add : Int → I → I → I × Int
  sub : Int → I → I → I × Int
  mul : Int → I → I → I × Int
  div : Int → I → I → I × Int
  sqr : Int → I → I × Int
  neg : Int → I → I × Int
  num : Int → F → I × Int
  nx : F → Bool → F × Int

def one64 : F := toF 4607182418800017408
def mone64 : F := toF 13830554455654793216
def pi64 : F := toF 4614256656552045848
/-- y by a number -/
def byM (K : Kt) (y : I) (d : F) (e : Int) : I × Int := K.div (K.num e d).2 y (K.num e d).1
def stepM (K : Kt) (y one : I) (d : F) (p : I × Int) : I × Int :=
  K.sub (K.mul (byM K y d p.2).2 (byM K y d p.2).1 p.1).2 one (K.mul (byM K y d p.2).2 (byM K y d p.2).1 p.1).1
def loopM (K : Kt) (y one : I) : List F → I × Int → I × Int
  | [], p => p
  | d :: l, p => loopM K y one l (stepM K y one d p)
def rowB (K : Kt) (y one : I) (l : List F) (q : I × Int) : I × Int := loopM K y one l (⟨q.1.lo, one64⟩, q.2)
def rowA (K : Kt) (y one : I) (d : F) (l : List F) (e : Int) : I × Int := rowB K y one l (K.sub (byM K y d e).2 one (byM K y d e).1)
def rowM (K : Kt) (d : F) (l : List F) (e : Int) (t : I) : I × Int := rowA K (K.sqr e t).1 (K.num (K.sqr e t).2 one64).1 d l (K.num (K.sqr e t).2 one64).2
@[irreducible] def row20 (K : Kt) (e : Int) (t : I) : I × Int :=
  rowM K (toF 4646096334330265600) [toF 4644724143818801152, toF 4643492690795692032, toF 4641592734702895104, toF 4639692778610098176, toF 4637440978796412928, toF 4634766966517661696, toF 4631107791820423168, toF 4626322717216342016, toF 4618441417868443648] e t
@[irreducible] def row19 (K : Kt) (e : Int) (t : I) : I × Int :=
  rowM K (toF 4645392646888488960) [toF 4644090825121202176, toF 4642648265865560064, toF 4640607572284407808, toF 4638848353679966208, toF 4636033603912859648, toF 4633078116657397760, toF 4629137466983448576, toF 4622945017495814144, toF 4611686018427387904] e t

def withI (a : I) : I := bif decide ((mnF a.hi one64).k < (mxF a.lo mone64).k) then I.zero else ⟨mxF a.lo mone64, mnF a.hi one64⟩
/-- behind the row's: sine and cosine within a quarter -/
structure Kr where
  r20 : Int → I → I × Int
  r19 : Int → I → I × Int
def kNx (f : F → Bool → F × Int) : List SV → Dec → Option (SV × Dec × Obs)
  | [.fl x, .b up], ds => some (.tup [.fl (f x up).1, .si .i64 (f x up).2], ds, [])
  | _, _ => none
def aRow (R : Kr) : List SV → Option (Int → I × Int)
  | [.agg [.fl a, .fl b], .i .i64 (.ofNat m)] => if Nat.beq m 20 = true then some (fun n => R.r20 n ⟨a, b⟩) else if Nat.beq m 19 = true then some (fun n => R.r19 n ⟨a, b⟩) else none
  | _ => none
def pDiv (up : Bool) (a b : F) : F × Int := if b.k = 0 then (F.zero, 11) else dDiv up a b
def KTR : Kt where
  add := cAdd dAdd
  sub := cSub dSub
  mul := cMul dMul
  div := cDiv pDiv
  sqr := cSqr dMul
  neg := cNeg
  num := cNum
  nx := nextF
def KRR : Kr := ⟨row20 KTR, row19 KTR⟩
def atT (K : Kt) (q x : F) : I × Int :=
  let pi : I := ⟨pi64, (K.nx pi64 true).1⟩
  let a := K.add 0 pi pi
  let b := K.num a.2 x
  let c := K.num b.2 q
  let d := K.sub c.2 b.1 c.1
  K.mul d.2 a.1 d.1
def atS (K : Kt) (R : Kr) (q x : F) : I × Int :=
  let t := atT K q x
  let r := R.r20 t.2 t.1
  K.mul r.2 t.1 r.1
def atC (K : Kt) (R : Kr) (q x : F) : I × Int :=
  let t := atT K q x
  let s := atS K R q x
  R.r19 s.2 t.1

def atN (K : Kt) (e : Int) (a : I) : I × Int := K.neg e a
/-- of a number within an eighth about a quarter of a turn: the quarter q, its number j -/
@[irreducible] def atP (K : Kt) (R : Kr) (W : I → I) (j : Nat) (q x : F) : I × I :=
  let S := atS K R q x
  let C := atC K R q x
  match j with
  | 0 => (W S.1, W C.1)
  | 1 => (W C.1, W (K.neg C.2 S.1).1)
  | 2 => (W (K.neg C.2 S.1).1, W (K.neg (K.neg C.2 S.1).2 C.1).1)
  | _ => (W (K.neg C.2 C.1).1, W S.1)
def c1 : F := toF 4593671619917905920
def c3 : F := toF 4600427019358961664
def c5 : F := toF 4603804719079489536
def c7 : F := toF 4606056518893174784
def q1 : F := toF 4598175219545276416
def q2 : F := toF 4602678819172646912
def q3 : F := toF 4604930618986332160
def atM (K : Kt) (R : Kr) (W : I → I) (x : F) : I × I :=
  bif decide (x.k < c5.k) then (bif decide (x.k < c3.k) then (bif decide (x.k < c1.k) then atP K R W 0 (toF 0) x else atP K R W 1 q1 x) else atP K R W 2 q2 x)
  else (bif decide (x.k < c7.k) then atP K R W 3 q3 x else atP K R W 0 one64 x)
@[irreducible] def atR : F → I × I := atM KTR KRR withI
def kAt (f : F → I × I) : List SV → Dec → Option (SV × Dec × Obs)
  | [.fl x], ds => some (.agg [.fl (f x).1.lo, .fl (f x).1.hi, .fl (f x).2.lo, .fl (f x).2.hi], ds, [])
  | _, _ => none

/-! an interval's -/
def oneI64 : I := ⟨one64, one64⟩
def moneI : I := ⟨mone64, mone64⟩
def topM (h : Bool) (a b : I) : I := bif h then hullI a b else a
def sinT (f : F → I × I) (h1 h3 : Bool) (a b : F) : I := topM h3 (topM h1 (hullI (f a).1 (f b).1) oneI64) moneI
def cosT (f : F → I × I) (h2 : Bool) (a b : F) : I := topM h2 (hullI (f a).2 (f b).2) moneI
def sinM (f : F → I × I) (a b : F) : I := sinT f (hasB ⟨a, b⟩ q1) (hasB ⟨a, b⟩ q3) a b
def cosM (f : F → I × I) (a b : F) : I := cosT f (hasB ⟨a, b⟩ q2) a b
def inB (a b : F) : Bool := rt ⟨a, b⟩ && decide ((toF 0).k ≤ a.k) && decide (b.k ≤ one64.k)
def sameW (a b : F) : Bool := decide ((a.b : Int) = (b.b : Int))
def sameI (a b : I) : Bool := sameW a.lo b.lo && sameW a.hi b.hi
def exactB (f : F → I × I) (x s c : F) : Bool := inB x x && sameI (sinM f x x) ⟨s, s⟩ && sameI (cosM f x x) ⟨c, c⟩
/-! with names for what is asked -/
def kB1 (p : F → Bool) : List SV → Dec → Option (SV × Dec × Obs)
  | [.fl x], ds => (takeB ds (p x)).map fun r => (.b r.1, r.2.1, r.2.2)
  | _, _ => none
def kB3 (p : F → F → F → Bool) : List SV → Dec → Option (SV × Dec × Obs)
  | [.fl x, .fl s, .fl c], ds => (takeB ds (p x s c)).map fun r => (.b r.1, r.2.1, r.2.2)
  | _, _ => none
def kBI (p : I → Bool) : List SV → Dec → Option (SV × Dec × Obs)
  | [.agg [.fl a, .fl b]], ds => (takeB ds (p ⟨a, b⟩)).map fun r => (.b r.1, r.2.1, r.2.2)
  | _, _ => none
def kBIF (p : I → F → Bool) : List SV → Dec → Option (SV × Dec × Obs)
  | [.agg [.fl a, .fl b], .fl x], ds => (takeB ds (p ⟨a, b⟩ x)).map fun r => (.b r.1, r.2.1, r.2.2)
  | _, _ => none
def kBII (p : I → I → Bool) : List SV → Dec → Option (SV × Dec × Obs)
  | [.agg [.fl a, .fl b], .agg [.fl c, .fl d]], ds => (takeB ds (p ⟨a, b⟩ ⟨c, d⟩)).map fun r => (.b r.1, r.2.1, r.2.2)
  | _, _ => none
/-- two intervals, or an error, that is 2 -/
def kSC (p : I → Bool) (s c : I → I) : List SV → Dec → Option (SV × Dec × Obs)
  | [.agg [.fl a, .fl b]], ds => (takeB ds (p ⟨a, b⟩)).map fun r => (bif r.1 then .tup [.agg [.fl (s ⟨a, b⟩).lo, .fl (s ⟨a, b⟩).hi], .agg [.fl (c ⟨a, b⟩).lo, .fl (c ⟨a, b⟩).hi], .i .i64 0] else .tup [.agg [.fl F.zero, .fl F.zero], .agg [.fl F.zero, .fl F.zero], .i .i64 2], r.2.1, r.2.2)
  | _, _ => none
/-- names for what laws of trig ask -/
structure Ns where
  ib : I → Bool
  si : I → I
  co : I → I
  ex : F → F → F → Bool
  ha : I → F → Bool
  sa : I → I → Bool
theorem sameW_k (a b : F) : sameW a b = true ↔ a = b := by
  unfold sameW
  rw [decide_eq_true_iff, Int.natCast_inj]
  exact ⟨F.b_inj, fun h => by rw [h]⟩
theorem sameI_iff (a b : I) : sameI a b = true ↔ a = b := by
  unfold sameI
  rw [Bool.and_eq_true, sameW_k, sameW_k]
  exact ⟨fun h => I.ext' h.1 h.2, fun h => by rw [h]; exact ⟨rfl, rfl⟩⟩
def oSC (f : F → I × I) : List SV → Dec → Option (SV × Dec × Obs)
  | [.agg [.fl a, .fl b]], ds => (takeB ds (inB a b)).map fun r => (bif r.1 then .tup [.agg [.fl (sinM f a b).lo, .fl (sinM f a b).hi], .agg [.fl (cosM f a b).lo, .fl (cosM f a b).hi], .i .i64 0] else .tup [.agg [.fl F.zero, .fl F.zero], .agg [.fl F.zero, .fl F.zero], .i .i64 2], r.2.1, r.2.2)
  | _, _ => none
def oSame : List SV → Dec → Option (SV × Dec × Obs)
  | [.agg [.fl a, .fl b], .agg [.fl c, .fl d]], ds => (takeB ds (sameI ⟨a, b⟩ ⟨c, d⟩)).map fun r => (.b r.1, r.2.1, r.2.2)
  | _, _ => none
def oFine : List SV → Dec → Option (SV × Dec × Obs)
  | [.agg [.fl a, .fl b]], ds => (takeB ds (inB a b)).map fun r => (.b r.1, r.2.1, r.2.2)
  | _, _ => none
def oExact (f : F → I × I) : List SV → Dec → Option (SV × Dec × Obs)
  | [.fl x, .fl s, .fl c], ds => (takeB ds (exactB f x s c)).map fun r => (.b r.1, r.2.1, r.2.2)
  | _, _ => none
def NR (f : F → I × I) : Ns := ⟨fun u => inB u.lo u.hi, fun u => sinM f u.lo u.hi, fun u => cosM f u.lo u.hi, exactB f, hasB, sameI⟩
end Bu
