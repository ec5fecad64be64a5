/- Packages ggx, vndf, vec, plain: what the functions tell. -/
import Derived.Test.YtccmfddnbofgkaaGreatKc
namespace Bu
set_option linter.all false
open Rx Go

def minA : F := toF 4584664420663164928
def tiny64 : F := toF 4318952042648305664
def huge64 : F := toF 4895412794951729152
def neB (e : Int) : Bool := !(e == 0)
/-! vec.Unit -/
def unE (K : Kk) (x y z : F) : List I × Int := evalK K (unP x y z) [] 0
def unV (K : Kk) (x y z : F) : V3 := ⟨gt (unE K x y z).1 4, gt (unE K x y z).1 2, gt (unE K x y z).1 0⟩
def mostF (x y z : F) : F := mxF (mxF x.abs y.abs) z.abs
def unB (x y z : F) : Bool := !decide ((mostF x y z).k < tiny64.k) && !decide (huge64.k < (mostF x y z).k)
def kUn (f : F → F → F → V3) (p : F → F → F → Bool) : List SV → Dec → Option (SV × Dec × Obs)
  | [.agg [.fl x, .fl y, .fl z]], ds => (takeB ds (p x y z)).map fun r => (bif r.1 then .tup [(f x y z).sv, .i .i64 0] else .tup [V3.zero.sv, .i .i64 50], r.2.1, r.2.2)
  | _, _ => none
/-! ggx -/
def ggE (K : Kk) (p : List Op) (c al : I) : List I × Int := evalK K p [c, al] 0
def ggR (K : Kk) (p : List Op) (c al : I) : I × Int := bif neB (ggE K p c al).2 then (I.zero, (ggE K p c al).2) else (gt (ggE K p c al).1 0, 0)
def alO (al : I) : Obs := [(decide (al.hi.k ≤ one64.k), true), (decide (minA.k ≤ al.lo.k), true), (rt al, true)]
def ggO (c al : I) : Obs := [(decide (c.hi.k ≤ one64.k), true), (decide (z64.k ≤ c.lo.k), true), (rt c, true)] ++ alO al
def kGg (f : I → I → I × Int) : List SV → Dec → Option (SV × Dec × Obs)
  | [.agg [.fl a, .fl b], .agg [.fl c, .fl d]], ds => some (.tup [.agg [.fl (f ⟨a, b⟩ ⟨c, d⟩).1.lo, .fl (f ⟨a, b⟩ ⟨c, d⟩).1.hi], .si .i64 (f ⟨a, b⟩ ⟨c, d⟩).2], ds, ggO ⟨a, b⟩ ⟨c, d⟩)
  | _, _ => none
/-! vndf -/
def drEnv (N : Kq) (v : V3) (al : I) (a b : Int) : List I := [N.uo a, N.co (N.uo b), N.si (N.uo b), al, v.z, v.y, v.x]
def dirO (v : V3) : Obs := [(decide (v.z.hi.k ≤ one64.k), true), (decide (z64.k ≤ v.z.lo.k), true), (decide (v.y.hi.k ≤ one64.k), true), (decide (mone64.k ≤ v.y.lo.k), true), (decide (v.x.hi.k ≤ one64.k), true), (decide (mone64.k ≤ v.x.lo.k), true), (rt v.z, true), (rt v.y, true), (rt v.x, true)]
def drQ (K : Kk) (v : List I) : I := gt (evalK K drP1 v 0).1 0
def drV (K : Kk) (p : List Op) (v : List I) : V3 := ⟨gt (evalK K p v 0).1 2, gt (evalK K p v 0).1 1, gt (evalK K p v 0).1 0⟩
def drX (K : Kk) (t p : List Op) (v : List I) : V3 × Int := bif neB (evalK K t v 0).2 then (V3.zero, (evalK K t v 0).2) else bif neB (evalK K p v 0).2 then (V3.zero, (evalK K p v 0).2) else (drV K p v, 0)
def drN (K : Kk) (v : List I) : V3 × Int := (V3.zero, bif neB (evalK K drP1 v 0).2 then (evalK K drP1 v 0).2 else 11)
def drR (K : Kk) (v : List I) : V3 × Int := bif decide ((drQ K v).hi.k = z64.k) then drX K drTa drA v else bif decide (z64.k < (drQ K v).lo.k) then drX K drTb drB v else drN K v
def drO (N : Kq) (v : V3) (al : I) (a b : Int) : Obs := [(N.u a, true), (N.ib (N.uo b), true), (N.u b, true)] ++ dirO v ++ alO al
def drOw (v : V3) (al : I) : Obs := [(rt v.z, true), (rt v.y, true), (rt v.x, true), (decide (minA.k ≤ al.lo.k), true), (rt al, true)]
/-- an alpha beyond 1 is told -/
def kVd (f : V3 → I → Int → Int → V3 × Int) (o : V3 → I → Int → Int → Obs) : List SV → Dec → Option (SV × Dec × Obs)
  | [.agg [.fl a, .fl b, .fl c, .fl d, .fl e, .fl f'], .agg [.fl g, .fl h], x, y], ds => match intS x, intS y with
    | some (.u64, n), some (.u64, m) => (takeB ds (decide (h.k ≤ one64.k))).map fun r => (bif r.1 then .tup [(f ⟨⟨a, b⟩, ⟨c, d⟩, ⟨e, f'⟩⟩ ⟨g, h⟩ n m).1.sv, .si .i64 (f ⟨⟨a, b⟩, ⟨c, d⟩, ⟨e, f'⟩⟩ ⟨g, h⟩ n m).2] else .tup [V3.zero.sv, .i .i64 2], r.2.1,
      (bif r.1 then o ⟨⟨a, b⟩, ⟨c, d⟩, ⟨e, f'⟩⟩ ⟨g, h⟩ n m else drOw ⟨⟨a, b⟩, ⟨c, d⟩, ⟨e, f'⟩⟩ ⟨g, h⟩) ++ r.2.2)
    | _, _ => none
  | _, _ => none
def dnE (K : Kk) (v w : V3) (g d : I) : List I × Int := evalK K dnP [d, g, w.z, w.y, w.x, v.z, v.y, v.x] 0
def dnR (K : Kk) (v w : V3) (al : I) : I × Int :=
  bif neB (ggR K gg1 v.z al).2 then (I.zero, (ggR K gg1 v.z al).2) else bif neB (ggR K ggD w.z al).2 then (I.zero, (ggR K ggD w.z al).2) else
  bif neB (dnE K v w (ggR K gg1 v.z al).1 (ggR K ggD w.z al).1).2 then (I.zero, (dnE K v w (ggR K gg1 v.z al).1 (ggR K ggD w.z al).1).2) else (gt (dnE K v w (ggR K gg1 v.z al).1 (ggR K ggD w.z al).1).1 0, 0)
def dnO (v w : V3) (al : I) : Obs := dirO w ++ dirO v ++ alO al
def kDn (f : V3 → V3 → I → I × Int) : List SV → Dec → Option (SV × Dec × Obs)
  | [.agg [.fl a, .fl b, .fl c, .fl d, .fl e, .fl f'], .agg [.fl a2, .fl b2, .fl c2, .fl d2, .fl e2, .fl f2], .agg [.fl g, .fl h]], ds =>
    some (.tup [.agg [.fl (f ⟨⟨a, b⟩, ⟨c, d⟩, ⟨e, f'⟩⟩ ⟨⟨a2, b2⟩, ⟨c2, d2⟩, ⟨e2, f2⟩⟩ ⟨g, h⟩).1.lo, .fl (f ⟨⟨a, b⟩, ⟨c, d⟩, ⟨e, f'⟩⟩ ⟨⟨a2, b2⟩, ⟨c2, d2⟩, ⟨e2, f2⟩⟩ ⟨g, h⟩).1.hi], .si .i64 (f ⟨⟨a, b⟩, ⟨c, d⟩, ⟨e, f'⟩⟩ ⟨⟨a2, b2⟩, ⟨c2, d2⟩, ⟨e2, f2⟩⟩ ⟨g, h⟩).2], ds, dnO ⟨⟨a, b⟩, ⟨c, d⟩, ⟨e, f'⟩⟩ ⟨⟨a2, b2⟩, ⟨c2, d2⟩, ⟨e2, f2⟩⟩ ⟨g, h⟩)
  | _, _ => none
/-- names for what the laws of layer 13 ask -/
structure Kw where
  K : Kk
  N : Kq
  vd : V3 → I → Int → Int → V3 × Int
  dn : V3 → V3 → I → I × Int
  fg : I → I → I × Int
  un : F → F → F → V3
  ub : F → F → F → Bool
  bw : F → F → Int → F
  pb : F → F → Bool
  wu : Int → Bool
  me : I → I → Bool
end Bu
