/- Known functions of package dir, with names for what they compute: so nothing is computed that need not be. -/
import Derived.Test.YtiipaicbbmkagaaGe
namespace Bu
set_option linter.all false
open Rx Go

structure Kd where
  sg : F → Bool
  mn : F → Int
  ex : F → Int
  dh : Int → Int → Int → Int
  dl : Int → Int → Int → Int
  dm : Int → Int → Int → Bool
  dn : Int → Bool
  u : Int → Bool
  rF : Bool → Int → Int → Bool → Int → Bool → F
  rI : Bool → Int → Int → Bool → Int → Bool → Int
  re : Int → Bool
  ah : Int → Int → Int → Int → Int
  al : Int → Int → Int → Int → Int
  sh : Int → Int → Int → Int → Int
  sl : Int → Int → Int → Int → Int

def kParts (K : Kd) : List SV → Dec → Option (SV × Dec × Obs)
  | [.fl x], ds => (takeB ds (K.sg x)).map fun r => (.tup [.b r.1, .si .u64 (K.mn x), .si .i64 (K.ex x)], r.2.1, r.2.2)
  | _, _ => none
def kDown (K : Kd) : List SV → Dec → Option (SV × Dec × Obs)
  | [.agg [x, y], z], ds => match intS x, intS y, intS z with
    | some (.u64, a), some (.u64, b), some (.i64, n) => (takeB ds (K.dm a b n)).map fun r =>
      (.tup [.agg [.si .u64 (K.dh a b n), .si .u64 (K.dl a b n)], .b r.1], r.2.1, (K.u a, true) :: (K.u b, true) :: (K.dn n, true) :: r.2.2)
    | _, _, _ => none
  | _, _ => none
def kRound (K : Kd) : List SV → Dec → Option (SV × Dec × Obs)
  | [.agg [.b minus, x, y, .b more, z], .b up], ds => match intS x, intS y, intS z with
    | some (.u64, a), some (.u64, b), some (.i64, e) => some (.tup [.fl (K.rF minus a b more e up), .si .i64 (K.rI minus a b more e up)], ds, [(K.u a, true), (K.u b, true), (K.re e, true)])
    | _, _, _ => none
  | _, _ => none
def kWadd (K : Kd) : List SV → Dec → Option (SV × Dec × Obs)
  | [.agg [x, y], .agg [z, t]], ds => match intS x, intS y, intS z, intS t with
    | some (.u64, a), some (.u64, b), some (.u64, c), some (.u64, d) => some (.agg [.si .u64 (K.ah a b c d), .si .u64 (K.al a b c d)], ds, [(K.u a, true), (K.u b, true), (K.u c, true), (K.u d, true)])
    | _, _, _, _ => none
  | _, _ => none
def kWsub (K : Kd) : List SV → Dec → Option (SV × Dec × Obs)
  | [.agg [x, y], .agg [z, t]], ds => match intS x, intS y, intS z, intS t with
    | some (.u64, a), some (.u64, b), some (.u64, c), some (.u64, d) => some (.agg [.si .u64 (K.sh a b c d), .si .u64 (K.sl a b c d)], ds, [(K.u a, true), (K.u b, true), (K.u c, true), (K.u d, true)])
    | _, _, _, _ => none
  | _, _ => none

def KR : Kd where
  sg := sg
  mn := fun x => (mn x : Int)
  ex := fun x => (ex x : Int) - 1074
  dh := fun a b n => hi (wn a b / 2 ^ n.toNat)
  dl := fun a b n => lo (wn a b / 2 ^ n.toNat)
  dm := fun a b n => decide (wn a b % 2 ^ n.toNat ≠ 0)
  dn := fun n => decide (0 ≤ n)
  u := u64B
  rF := fun minus a b more e up => (rndG minus (wn a b) more e up).1
  rI := fun minus a b more e up => (rndG minus (wn a b) more e up).2
  re := fun e => decide (-5000 ≤ e ∧ e ≤ 5000)
  ah := fun a b c d => (a + c + (b + d + 0) / 18446744073709551616) % 18446744073709551616
  al := fun _ b _ d => (b + d + 0) % 18446744073709551616
  sh := fun a b c d => (a - c - (if b < d + 0 then 1 else 0)) % 18446744073709551616
  sl := fun _ b _ d => (b - d - 0) % 18446744073709551616

/-- with names -/
def dK (K : Kd) (a b : F) : Int := IntKind.i64.wrap (K.ex a - K.ex b)
def eK (K : Kd) (a : F) : Int := IntKind.i64.wrap (K.ex a - 64)
def sH (K : Kd) (a b : F) : Int := K.dh (K.mn b) 0 (dK K a b)
def sL (K : Kd) (a b : F) : Int := K.dl (K.mn b) 0 (dK K a b)
def mK (K : Kd) (a b : F) (d : Bool) : Obs := [(K.u (K.mn b), true), (K.u 0, true), (K.dn (dK K a b), true), (K.dm (K.mn b) 0 (dK K a b), d)]
def oH (K : Kd) (a b : F) : Int := K.sh (K.mn a) 0 (sH K a b) (sL K a b)
def oL (K : Kd) (a b : F) : Int := K.sl (K.mn a) 0 (sH K a b) (sL K a b)
def hK (K : Kd) (same more : Bool) (a b : F) : Int := if same then K.ah (K.mn a) 0 (sH K a b) (sL K a b) else if more then K.sh (oH K a b) (oL K a b) 0 1 else oH K a b
def lK (K : Kd) (same more : Bool) (a b : F) : Int := if same then K.al (K.mn a) 0 (sH K a b) (sL K a b) else if more then K.sl (oH K a b) (oL K a b) 0 1 else oL K a b
def w1K (K : Kd) (a b : F) : Obs := [(K.u (K.mn a), true), (K.u 0, true), (K.u (sH K a b), true), (K.u (sL K a b), true)]
def w2K (K : Kd) (a b : F) : Obs := [(K.u (oH K a b), true), (K.u (oL K a b), true), (K.u 0, true), (K.u 1, true)]
def rdK (K : Kd) (h l e : Int) : Obs := [(K.u h, true), (K.u l, true), (K.re e, true)]
def wAllK (K : Kd) (same more : Bool) (a b : F) : Obs := if same then w1K K a b else if more then w2K K a b ++ w1K K a b else w1K K a b
def obK (K : Kd) (same more : Bool) (a b : F) : Obs := rdK K (hK K same more a b) (lK K same more a b) (eK K a) ++ wAllK K same more a b ++ mK K a b more

theorem dK_R (a b : F) : dK KR a b = dI a b := rfl
theorem eK_R (a : F) : eK KR a = eI a := rfl
theorem sH_R (a b : F) : sH KR a b = hi (sI a b) := rfl
theorem sL_R (a b : F) : sL KR a b = lo (sI a b) := rfl
theorem oH_R (a b : F) : oH KR a b = hO a b := rfl
theorem oL_R (a b : F) : oL KR a b = lO a b := rfl
theorem hK_R (s m : Bool) (a b : F) : hK KR s m a b = hA s m a b := rfl
theorem lK_R (s m : Bool) (a b : F) : lK KR s m a b = lA s m a b := rfl
theorem obK_R (s m : Bool) (a b : F) : obK KR s m a b = obA s m a b := rfl
end Bu
