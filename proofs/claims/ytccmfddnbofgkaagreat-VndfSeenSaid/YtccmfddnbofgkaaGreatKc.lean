/- Packages vec, ggx, vndf, plain: straight lines. -/
import Derived.Test.YtccmfddnbofgkaaGreatKa
namespace Bu
set_option linter.all false
open Rx Go

def z64 : F := toF 0
def PIc : I := ⟨pi64, (nextF pi64 true).1⟩
structure V3 where
  x : I
  y : I
  z : I
def V3.zero : V3 := ⟨I.zero, I.zero, I.zero⟩
def V3.sv (v : V3) : SV := .agg [.fl v.x.lo, .fl v.x.hi, .fl v.y.lo, .fl v.y.hi, .fl v.z.lo, .fl v.z.hi]
def kAbs : List SV → Dec → Option (SV × Dec × Obs)
  | [.fl x], ds => some (.fl x.abs, ds, [])
  | _, _ => none
/-! vec.Unit -/
/-- of  -/
def unP (x y z : F) : List Op := [.num (x), .num (y), .num (z), .sqr 2, .sqr 2, .add 1 0, .sqr 3, .add 1 0, .sqrt 0, .div 8 0, .wi 0, .div 9 2, .wi 0, .div 10 4, .wi 0]
/-! ggx -/
/-- of al, c -/
def ggD : List Op := [.sqr 1, .lit (PIc), .num (one64), .sub 2 0, .sqr 4, .mul 1 0, .num (one64), .add 1 0, .sqr 0, .mul 7 0, .div 9 0]
/-- of al, c -/
def ggF : List Op := [.sqr 1, .num (one64), .sqr 2, .sub 1 0, .num (one64), .sub 4 0, .sqr 6, .mul 1 0, .num (one64), .add 1 0, .div 6 0]
/-- of al, c -/
def gg1 : List Op := [.sqr 1, .num (one64), .sqr 2, .num (one64), .sub 0 1, .div 0 2, .num (q2), .num (one64), .mul 7 2, .add 1 0, .sqrt 0, .num (one64), .sub 1 0, .mul 6 0, .hid 0, .add 13 0, .num (one64), .div 0 1]
/-! vndf -/
/-- of X, Y, Z, al, sin, cos, A -/
def drP1 : List Op := [.num (one64), .num (z64), .mul 5 8, .mul 6 8, .num (one64), .sqr 2, .sqr 2, .add 1 0, .sqr 12, .add 1 0, .sqrt 0, .div 6 0, .mul 0 9, .mul 1 9, .mul 2 18, .kept mone64 one64 2, .kept mone64 one64 2, .kept z64 one64 2, .sqr 2, .sqr 2, .add 1 0]
/-- of X, Y, Z, al, sin, cos, A -/
def drTa : List Op := [.num (one64), .num (z64), .mul 5 8, .mul 6 8, .num (one64), .sqr 2, .sqr 2, .add 1 0, .sqr 12, .add 1 0, .sqrt 0, .div 6 0, .mul 0 9, .mul 1 9, .mul 2 18, .kept mone64 one64 2, .kept mone64 one64 2, .kept z64 one64 2, .sqr 2, .sqr 2, .add 1 0, .lit (I.zero), .lit (I.zero), .lit (I.zero), .num (one64), .lit (I.zero), .lit (I.zero), .lit (I.zero)]
/-- of X, Y, Z, al, sin, cos, A -/
def drTb : List Op := [.num (one64), .num (z64), .mul 5 8, .mul 6 8, .num (one64), .sqr 2, .sqr 2, .add 1 0, .sqr 12, .add 1 0, .sqrt 0, .div 6 0, .mul 0 9, .mul 1 9, .mul 2 18, .kept mone64 one64 2, .kept mone64 one64 2, .kept z64 one64 2, .sqr 2, .sqr 2, .add 1 0, .sqrt 0, .neg 5, .div 0 1, .kept mone64 one64 0, .div 9 3, .kept mone64 one64 0, .lit (I.zero)]
/-- of X, Y, Z, al, sin, cos, A -/
def drA : List Op := [.num (one64), .num (z64), .mul 5 8, .mul 6 8, .num (one64), .sqr 2, .sqr 2, .add 1 0, .sqr 12, .add 1 0, .sqrt 0, .div 6 0, .mul 0 9, .mul 1 9, .mul 2 18, .kept mone64 one64 2, .kept mone64 one64 2, .kept z64 one64 2, .sqr 2, .sqr 2, .add 1 0, .lit (I.zero), .lit (I.zero), .lit (I.zero), .num (one64), .lit (I.zero), .lit (I.zero), .lit (I.zero), .mul 11 0, .mul 11 2, .sub 1 0, .mul 13 6, .mul 16 4, .sub 1 0, .mul 18 7, .mul 18 10, .sub 1 0, .sqrt 37, .mul 0 39, .num (q2), .add 39 22, .mul 1 0, .sqr 3, .sub 42 0, .sub 43 2, .max 1 43, .sqrt 0, .mul 2 0, .mul 10 50, .mul 7 0, .add 2 0, .sqr 0, .sub 8 0, .max 0 51, .sqrt 0, .mul 16 30, .mul 17 29, .mul 18 29, .mul 7 27, .mul 8 25, .mul 9 23, .add 5 2, .add 5 2, .add 5 2, .mul 9 48, .mul 10 48, .mul 11 48, .add 5 2, .add 5 2, .add 5 2, .mul 73 2, .mul 74 2, .max 2 70, .num (one64), .sqr 3, .sqr 3, .add 1 0, .sqr 4, .add 1 0, .sqrt 0, .div 6 0, .mul 0 10, .mul 1 10, .mul 2 10, .kept mone64 one64 2, .kept mone64 one64 2, .kept z64 one64 2]
/-- of X, Y, Z, al, sin, cos, A -/
def drB : List Op := [.num (one64), .num (z64), .mul 5 8, .mul 6 8, .num (one64), .sqr 2, .sqr 2, .add 1 0, .sqr 12, .add 1 0, .sqrt 0, .div 6 0, .mul 0 9, .mul 1 9, .mul 2 18, .kept mone64 one64 2, .kept mone64 one64 2, .kept z64 one64 2, .sqr 2, .sqr 2, .add 1 0, .sqrt 0, .neg 5, .div 0 1, .kept mone64 one64 0, .div 9 3, .kept mone64 one64 0, .lit (I.zero), .mul 11 0, .mul 11 2, .sub 1 0, .mul 13 6, .mul 16 4, .sub 1 0, .mul 18 7, .mul 18 10, .sub 1 0, .sqrt 37, .mul 0 39, .num (q2), .add 39 22, .mul 1 0, .sqr 3, .sub 42 0, .sub 43 2, .max 1 43, .sqrt 0, .mul 2 0, .mul 10 50, .mul 7 0, .add 2 0, .sqr 0, .sub 8 0, .max 0 51, .sqrt 0, .mul 16 30, .mul 17 29, .mul 18 29, .mul 7 27, .mul 8 25, .mul 9 23, .add 5 2, .add 5 2, .add 5 2, .mul 9 48, .mul 10 48, .mul 11 48, .add 5 2, .add 5 2, .add 5 2, .mul 73 2, .mul 74 2, .max 2 70, .num (one64), .sqr 3, .sqr 3, .add 1 0, .sqr 4, .add 1 0, .sqrt 0, .div 6 0, .mul 0 10, .mul 1 10, .mul 2 10, .kept mone64 one64 2, .kept mone64 one64 2, .kept z64 one64 2]
/-! dot, kept; and the rest of a density -/
/-- of X, Y, Z, U, V, W, one, d -/
def dnP : List Op := [.mul 7 4, .mul 7 4, .add 1 0, .mul 8 5, .add 1 0, .kept z64 one64 0, .mul 7 6, .mul 0 1, .div 0 13]
end Bu
