/- What the laws of layer 13 ask. -/
import Derived.Test.YtccmfddnbofgkaaGreatKe
namespace Bu
set_option linter.all false
open Rx Go

def nearO (a : I) (lo hi : Nat) : Obs := [(decide (a.lo.k ≤ a.hi.k), true), (decide (a.hi.k ≤ (toF hi).k), true), (decide ((toF lo).k ≤ a.lo.k), true)]
def zI : I := pt (toF 0)
def upV : V3 := ⟨zI, zI, pt one64⟩
def b13 : V3 := ⟨pt (toF 4603579539098121011), zI, pt (toF 4605380978949069210)⟩
def half13 : I := pt q2
def vo13 (W : Kw) (v : V3) (al : I) (a b : Int) : Obs := drO W.N v al a b ++ [(decide (al.hi.k ≤ one64.k), true)]
def aw13 (W : Kw) : Obs := nearO (W.dn upV upV half13).1 4608412980308558692 4608412980313062292 ++ nearO (W.vd b13 (pt one64) 4611686018427387904 0).1.y 4602678819154632513 4602678819181654111 ++ nearO (W.vd upV half13 0 0).1.z 4607182418800009216 4607182418800017408 ++ nearO (W.vd upV half13 0 0).1.x 13650410470559973376 4427038433705197568 ++
  [(decide ((W.dn upV upV half13).2 = 0), true), (decide ((W.vd b13 (pt one64) 4611686018427387904 0).2 = 0), true), (decide ((W.vd upV half13 0 0).2 = 0), true)] ++
  (drOw upV (pt (toF 4611686018427387904)) ++ [(decide ((pt (toF 4611686018427387904)).hi.k ≤ one64.k), false)]) ++ dnO upV upV half13 ++ vo13 W b13 (pt one64) 4611686018427387904 0 ++ vo13 W upV half13 0 0
/-- a direction by numbers -/
def d64 : F := toF 4580160821035794432
def oneV (W : Kw) (a b c : Int) : V3 := W.un (W.bw mone64 one64 a) (W.bw mone64 one64 b) (W.bw d64 one64 c)
def oneO (W : Kw) (a b c : Int) : Obs := [(decide (z64.k < (oneV W a b c).z.lo.k), true), (W.ub (W.bw mone64 one64 a) (W.bw mone64 one64 b) (W.bw d64 one64 c), true), (W.pb d64 one64, true), (W.wu c, true), (W.pb mone64 one64, true), (W.wu b, true), (W.pb mone64 one64, true), (W.wu a, true)]
def alF (W : Kw) (v : Int) : I := pt (W.bw minA one64 v)
def alFO (W : Kw) (v : Int) : Obs := [(W.pb minA one64, true), (W.wu v, true)]
def w13 (K : Kk) : Kw := ⟨K, KqR atR, fun _ _ _ _ => (V3.zero, 0), fun _ _ _ => (I.zero, 0), fun _ _ => (I.zero, 0), unV K, unB, bwF, pairB, wN32, meetsB⟩
/-! VndfAlong -/
/-- of X, Y, nx, ny, A, cos -/
def alP : List Op := [.sqrt 1, .mul 0 1, .sqr 7, .sqr 7, .add 1 0, .sqrt 0, .mul 8 11, .mul 10 11, .sub 1 0, .div 0 3]
/-- of X, Y, nx, ny, A, cos -/
def alP1 : List Op := [.sqrt 1, .mul 0 1, .sqr 7, .sqr 7, .add 1 0, .sqrt 0]
def alEnv (W : Kw) (v n : V3) (d e : Int) : List I := [W.N.co (W.N.uo e), W.N.uo d, n.y, n.x, v.y, v.x]
def alE (W : Kw) (v n : V3) (d e : Int) : List I × Int := evalK W.K alP (alEnv W v n d e) 0
/-- ahead of the error's test -/
def alO1 (W : Kw) (a b c d e : Int) : Obs := vo13 W (oneV W a b c) (pt one64) d e ++ oneO W a b c
def alO2 (W : Kw) (a b c d e : Int) (n : V3) (r : Int) (s : Bool) : Obs :=
  (decide ((gt (evalK W.K alP1 (alEnv W (oneV W a b c) n d e) 0).1 0).lo.k ≤ z64.k), s) :: (W.N.u d, true) :: (W.N.ib (W.N.uo e), true) :: (W.N.u e, true) :: (decide (r = 10), false) :: (decide (r = 11), false) :: alO1 W a b c d e
def alO3 (W : Kw) (a b c d e : Int) (n : V3) (r : Int) : Obs :=
  (W.me (gt (alE W (oneV W a b c) n d e).1 0) (gt (alE W (oneV W a b c) n d e).1 8), true) :: (decide ((alE W (oneV W a b c) n d e).2 = 0), true) :: (decide (r = 0), true) :: alO2 W a b c d e n r false
/-! VndfFacing -/
/-- of nx, nny, sin, cos -/
def vfP : List Op := [.mul 3 1, .mul 3 1]
def vfE (W : Kw) (n : V3) (e : Int) : List I × Int := evalK W.K vfP [W.N.co (W.N.uo e), W.N.si (W.N.uo e), n.y, n.x] 0
def vfO (W : Kw) (v d e : Int) (n : V3) (r : Int) : Obs :=
  (W.me (gt (vfE W n e).1 1) (gt (vfE W n e).1 0), true) :: (W.me (W.fg n.z (alF W v)).1 (W.N.uo d), true) :: (W.N.u d, true) :: (decide ((vfE W n e).2 = 0), true) :: (decide ((W.fg n.z (alF W v)).2 = 0), true) ::
  (W.N.ib (W.N.uo e), true) :: (W.N.u e, true) :: (ggO n.z (alF W v) ++ (neB r, false) :: (vo13 W upV (alF W v) d e ++ alFO W v))
/-! VndfSeen -/
/-- of nx, nny, nz, X, Y, Z -/
def vsP : List Op := [.mul 5 5, .mul 5 5, .add 1 0, .mul 6 6, .add 1 0, .mul 10 7, .mul 10 7, .add 1 0, .mul 11 8, .add 1 0]
def vsE (W : Kw) (n v : V3) : List I × Int := evalK W.K vsP [v.z, v.y, v.x, n.z, n.y, n.x] 0
def vsO1 (W : Kw) (a b c v d e : Int) : Obs := vo13 W (oneV W a b c) (alF W v) d e ++ alFO W v ++ oneO W a b c
def vsO2 (W : Kw) (a b c v d e : Int) (n : V3) (r : Int) (s : Bool) : Obs :=
  (bif s then [(decide ((gt (vsE W n (oneV W a b c)).1 0).lo.k ≤ z64.k), true)] else [(decide (z64.k < (W.dn (oneV W a b c) n (alF W v)).1.lo.k), true), (decide ((gt (vsE W n (oneV W a b c)).1 0).lo.k ≤ z64.k), false)]) ++
  ((decide (z64.k ≤ (W.dn (oneV W a b c) n (alF W v)).1.lo.k), true) :: (decide (z64.k ≤ (gt (vsE W n (oneV W a b c)).1 0).hi.k), true) :: (decide (n.z.hi.k ≤ one64.k), true) :: (decide (z64.k ≤ n.z.lo.k), true) ::
  (decide (one64.k ≤ (gt (vsE W n (oneV W a b c)).1 5).hi.k), true) :: (decide ((gt (vsE W n (oneV W a b c)).1 5).lo.k ≤ one64.k), true) :: (decide ((W.dn (oneV W a b c) n (alF W v)).2 = 0), true) :: (decide ((vsE W n (oneV W a b c)).2 = 0), true) ::
  (dnO (oneV W a b c) n (alF W v) ++ (neB r, false) :: (decide (r = 10), false) :: (decide (r = 11), false) :: vsO1 W a b c v d e))
/-! VndfTurned -/
def trV (W : Kw) (v : V3) : V3 := ⟨(W.K.neg 0 v.y).1, v.x, v.z⟩
def vtB (W : Kw) (a b c v d e : Int) : Obs := vo13 W (trV W (oneV W a b c)) (alF W v) d e ++ (vo13 W (oneV W a b c) (alF W v) d e ++ (alFO W v ++ oneO W a b c))
def vtO0 (W : Kw) (a b c v d e : Int) : Obs :=
  [(decide ((W.vd (trV W (oneV W a b c)) (alF W v) d e).2 = 11), true), (decide ((W.vd (trV W (oneV W a b c)) (alF W v) d e).2 = 0), false), (decide ((W.vd (oneV W a b c) (alF W v) d e).2 = 11), true), (decide ((W.vd (oneV W a b c) (alF W v) d e).2 = 0), false), (neB (W.vd (oneV W a b c) (alF W v) d e).2, true)] ++ vtB W a b c v d e
def vtO1 (W : Kw) (a b c v d e : Int) : Obs :=
  [(decide ((W.vd (trV W (oneV W a b c)) (alF W v) d e).2 = 10), true), (decide ((W.vd (trV W (oneV W a b c)) (alF W v) d e).2 = 11), false), (decide ((W.vd (trV W (oneV W a b c)) (alF W v) d e).2 = 0), false), (decide ((W.vd (oneV W a b c) (alF W v) d e).2 = 10), true), (decide ((W.vd (oneV W a b c) (alF W v) d e).2 = 11), false), (decide ((W.vd (oneV W a b c) (alF W v) d e).2 = 0), false), (neB (W.vd (oneV W a b c) (alF W v) d e).2, true)] ++ vtB W a b c v d e
end Bu
