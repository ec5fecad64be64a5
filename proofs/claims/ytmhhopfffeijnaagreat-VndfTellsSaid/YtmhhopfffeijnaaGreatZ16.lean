/- Packages vec, ggx, vndf, plain: straight lines. Packages ggx, vndf, vec, plain: what the functions tell. What the laws of layer 13 ask. vndf.Draw, plain: what its rows tell where there is no error. vec.Unit, plain: the unit vector of a triple above the horizon. The examples of layer 13, closed. The document's lines of layers 9 and 13: the order in which the references reckon. Two lines of interval arithmetic side by side, errors too: each row of the second one is the next row of the first one, or a row that the first one has done; rows of the first one alone can't fail. -/
import Derived.Test.YtmhhopfffeijnaaGreatZ15
namespace Bu
set_option linter.all false
open Rx Go

def z64 : F := toF 0
def PIc : I := ⟨pi64, (nextF pi64 true).1⟩
structure V3 where
  x : I
  y : I
  z : I
def V3.zero : V3 := ⟨I.zero, I.zero, I.zero⟩
def V3.sv (v : V3) : SV := .agg [.fl v.x.lo, .fl v.x.hi, .fl v.y.lo, .fl v.y.hi, .fl v.z.lo, .fl v.z.hi]
def kAbs : List SV → Dec → Option (SV × Dec × Obs)
  | [.fl x], ds => some (.fl x.abs, ds, [])
  | _, _ => none
/-- of  -/
def unP (x y z : F) : List Op := [.num (x), .num (y), .num (z), .sqr 2, .sqr 2, .add 1 0, .sqr 3, .add 1 0, .sqrt 0, .div 8 0, .wi 0, .div 9 2, .wi 0, .div 10 4, .wi 0]
/-- of al, c -/
def ggD : List Op := [.sqr 1, .lit (PIc), .num (one64), .sub 2 0, .sqr 4, .mul 1 0, .num (one64), .add 1 0, .sqr 0, .mul 7 0, .div 9 0]
/-- of al, c -/
def ggF : List Op := [.sqr 1, .num (one64), .sqr 2, .sub 1 0, .num (one64), .sub 4 0, .sqr 6, .mul 1 0, .num (one64), .add 1 0, .div 6 0]
/-- of al, c -/
def gg1 : List Op := [.sqr 1, .num (one64), .sqr 2, .num (one64), .sub 0 1, .div 0 2, .num (q2), .num (one64), .mul 7 2, .add 1 0, .sqrt 0, .num (one64), .sub 1 0, .mul 6 0, .hid 0, .add 13 0, .num (one64), .div 0 1]
/-- of X, Y, Z, al, sin, cos, A -/
def drP1 : List Op := [.num (one64), .num (z64), .mul 5 8, .mul 6 8, .num (one64), .sqr 2, .sqr 2, .add 1 0, .sqr 12, .add 1 0, .sqrt 0, .div 6 0, .mul 0 9, .mul 1 9, .mul 2 18, .kept mone64 one64 2, .kept mone64 one64 2, .kept z64 one64 2, .sqr 2, .sqr 2, .add 1 0]
/-- of X, Y, Z, al, sin, cos, A -/
def drTa : List Op := [.num (one64), .num (z64), .mul 5 8, .mul 6 8, .num (one64), .sqr 2, .sqr 2, .add 1 0, .sqr 12, .add 1 0, .sqrt 0, .div 6 0, .mul 0 9, .mul 1 9, .mul 2 18, .kept mone64 one64 2, .kept mone64 one64 2, .kept z64 one64 2, .sqr 2, .sqr 2, .add 1 0, .lit (I.zero), .lit (I.zero), .lit (I.zero), .num (one64), .lit (I.zero), .lit (I.zero), .lit (I.zero)]
/-- of X, Y, Z, al, sin, cos, A -/
def drTb : List Op := [.num (one64), .num (z64), .mul 5 8, .mul 6 8, .num (one64), .sqr 2, .sqr 2, .add 1 0, .sqr 12, .add 1 0, .sqrt 0, .div 6 0, .mul 0 9, .mul 1 9, .mul 2 18, .kept mone64 one64 2, .kept mone64 one64 2, .kept z64 one64 2, .sqr 2, .sqr 2, .add 1 0, .sqrt 0, .neg 5, .div 0 1, .kept mone64 one64 0, .div 9 3, .kept mone64 one64 0, .lit (I.zero)]
/-- of X, Y, Z, al, sin, cos, A -/
def drA : List Op := [.num (one64), .num (z64), .mul 5 8, .mul 6 8, .num (one64), .sqr 2, .sqr 2, .add 1 0, .sqr 12, .add 1 0, .sqrt 0, .div 6 0, .mul 0 9, .mul 1 9, .mul 2 18, .kept mone64 one64 2, .kept mone64 one64 2, .kept z64 one64 2, .sqr 2, .sqr 2, .add 1 0, .lit (I.zero), .lit (I.zero), .lit (I.zero), .num (one64), .lit (I.zero), .lit (I.zero), .lit (I.zero), .mul 11 0, .mul 11 2, .sub 1 0, .mul 13 6, .mul 16 4, .sub 1 0, .mul 18 7, .mul 18 10, .sub 1 0, .sqrt 37, .mul 0 39, .num (q2), .add 39 22, .mul 1 0, .sqr 3, .sub 42 0, .sub 43 2, .max 1 43, .sqrt 0, .mul 2 0, .mul 10 50, .mul 7 0, .add 2 0, .sqr 0, .sub 8 0, .max 0 51, .sqrt 0, .mul 16 30, .mul 17 29, .mul 18 29, .mul 7 27, .mul 8 25, .mul 9 23, .add 5 2, .add 5 2, .add 5 2, .mul 9 48, .mul 10 48, .mul 11 48, .add 5 2, .add 5 2, .add 5 2, .mul 73 2, .mul 74 2, .max 2 70, .num (one64), .sqr 3, .sqr 3, .add 1 0, .sqr 4, .add 1 0, .sqrt 0, .div 6 0, .mul 0 10, .mul 1 10, .mul 2 10, .kept mone64 one64 2, .kept mone64 one64 2, .kept z64 one64 2]
/-- of X, Y, Z, al, sin, cos, A -/
def drB : List Op := [.num (one64), .num (z64), .mul 5 8, .mul 6 8, .num (one64), .sqr 2, .sqr 2, .add 1 0, .sqr 12, .add 1 0, .sqrt 0, .div 6 0, .mul 0 9, .mul 1 9, .mul 2 18, .kept mone64 one64 2, .kept mone64 one64 2, .kept z64 one64 2, .sqr 2, .sqr 2, .add 1 0, .sqrt 0, .neg 5, .div 0 1, .kept mone64 one64 0, .div 9 3, .kept mone64 one64 0, .lit (I.zero), .mul 11 0, .mul 11 2, .sub 1 0, .mul 13 6, .mul 16 4, .sub 1 0, .mul 18 7, .mul 18 10, .sub 1 0, .sqrt 37, .mul 0 39, .num (q2), .add 39 22, .mul 1 0, .sqr 3, .sub 42 0, .sub 43 2, .max 1 43, .sqrt 0, .mul 2 0, .mul 10 50, .mul 7 0, .add 2 0, .sqr 0, .sub 8 0, .max 0 51, .sqrt 0, .mul 16 30, .mul 17 29, .mul 18 29, .mul 7 27, .mul 8 25, .mul 9 23, .add 5 2, .add 5 2, .add 5 2, .mul 9 48, .mul 10 48, .mul 11 48, .add 5 2, .add 5 2, .add 5 2, .mul 73 2, .mul 74 2, .max 2 70, .num (one64), .sqr 3, .sqr 3, .add 1 0, .sqr 4, .add 1 0, .sqrt 0, .div 6 0, .mul 0 10, .mul 1 10, .mul 2 10, .kept mone64 one64 2, .kept mone64 one64 2, .kept z64 one64 2]
/-- of X, Y, Z, U, V, W, one, d -/
def dnP : List Op := [.mul 7 4, .mul 7 4, .add 1 0, .mul 8 5, .add 1 0, .kept z64 one64 0, .mul 7 6, .mul 0 1, .div 0 13]
end Bu
namespace Bu
set_option linter.all false
open Rx Go

def minA : F := toF 4584664420663164928
def tiny64 : F := toF 4318952042648305664
def huge64 : F := toF 4895412794951729152
def neB (e : Int) : Bool := !(e == 0)
def unE (K : Kk) (x y z : F) : List I × Int := evalK K (unP x y z) [] 0
def unV (K : Kk) (x y z : F) : V3 := ⟨gt (unE K x y z).1 4, gt (unE K x y z).1 2, gt (unE K x y z).1 0⟩
def mostF (x y z : F) : F := mxF (mxF x.abs y.abs) z.abs
def unB (x y z : F) : Bool := !decide ((mostF x y z).k < tiny64.k) && !decide (huge64.k < (mostF x y z).k)
def kUn (f : F → F → F → V3) (p : F → F → F → Bool) : List SV → Dec → Option (SV × Dec × Obs)
  | [.agg [.fl x, .fl y, .fl z]], ds => (takeB ds (p x y z)).map fun r => (bif r.1 then .tup [(f x y z).sv, .i .i64 0] else .tup [V3.zero.sv, .i .i64 50], r.2.1, r.2.2)
  | _, _ => none
def ggE (K : Kk) (p : List Op) (c al : I) : List I × Int := evalK K p [c, al] 0
def ggR (K : Kk) (p : List Op) (c al : I) : I × Int := bif neB (ggE K p c al).2 then (I.zero, (ggE K p c al).2) else (gt (ggE K p c al).1 0, 0)
def alO (al : I) : Obs := [(decide (al.hi.k ≤ one64.k), true), (decide (minA.k ≤ al.lo.k), true), (rt al, true)]
def ggO (c al : I) : Obs := [(decide (c.hi.k ≤ one64.k), true), (decide (z64.k ≤ c.lo.k), true), (rt c, true)] ++ alO al
def kGg (f : I → I → I × Int) : List SV → Dec → Option (SV × Dec × Obs)
  | [.agg [.fl a, .fl b], .agg [.fl c, .fl d]], ds => some (.tup [.agg [.fl (f ⟨a, b⟩ ⟨c, d⟩).1.lo, .fl (f ⟨a, b⟩ ⟨c, d⟩).1.hi], .si .i64 (f ⟨a, b⟩ ⟨c, d⟩).2], ds, ggO ⟨a, b⟩ ⟨c, d⟩)
  | _, _ => none
def drEnv (N : Kq) (v : V3) (al : I) (a b : Int) : List I := [N.uo a, N.co (N.uo b), N.si (N.uo b), al, v.z, v.y, v.x]
def dirO (v : V3) : Obs := [(decide (v.z.hi.k ≤ one64.k), true), (decide (z64.k ≤ v.z.lo.k), true), (decide (v.y.hi.k ≤ one64.k), true), (decide (mone64.k ≤ v.y.lo.k), true), (decide (v.x.hi.k ≤ one64.k), true), (decide (mone64.k ≤ v.x.lo.k), true), (rt v.z, true), (rt v.y, true), (rt v.x, true)]
def drQ (K : Kk) (v : List I) : I := gt (evalK K drP1 v 0).1 0
def drV (K : Kk) (p : List Op) (v : List I) : V3 := ⟨gt (evalK K p v 0).1 2, gt (evalK K p v 0).1 1, gt (evalK K p v 0).1 0⟩
def drX (K : Kk) (t p : List Op) (v : List I) : V3 × Int := bif neB (evalK K t v 0).2 then (V3.zero, (evalK K t v 0).2) else bif neB (evalK K p v 0).2 then (V3.zero, (evalK K p v 0).2) else (drV K p v, 0)
def drN (K : Kk) (v : List I) : V3 × Int := (V3.zero, bif neB (evalK K drP1 v 0).2 then (evalK K drP1 v 0).2 else 11)
def drR (K : Kk) (v : List I) : V3 × Int := bif decide ((drQ K v).hi.k = z64.k) then drX K drTa drA v else bif decide (z64.k < (drQ K v).lo.k) then drX K drTb drB v else drN K v
def drO (N : Kq) (v : V3) (al : I) (a b : Int) : Obs := [(N.u a, true), (N.ib (N.uo b), true), (N.u b, true)] ++ dirO v ++ alO al
def drOw (v : V3) (al : I) : Obs := [(rt v.z, true), (rt v.y, true), (rt v.x, true), (decide (minA.k ≤ al.lo.k), true), (rt al, true)]
/-- an alpha beyond 1 is told -/
def kVd (f : V3 → I → Int → Int → V3 × Int) (o : V3 → I → Int → Int → Obs) : List SV → Dec → Option (SV × Dec × Obs)
  | [.agg [.fl a, .fl b, .fl c, .fl d, .fl e, .fl f'], .agg [.fl g, .fl h], x, y], ds => match intS x, intS y with
    | some (.u64, n), some (.u64, m) => (takeB ds (decide (h.k ≤ one64.k))).map fun r => (bif r.1 then .tup [(f ⟨⟨a, b⟩, ⟨c, d⟩, ⟨e, f'⟩⟩ ⟨g, h⟩ n m).1.sv, .si .i64 (f ⟨⟨a, b⟩, ⟨c, d⟩, ⟨e, f'⟩⟩ ⟨g, h⟩ n m).2] else .tup [V3.zero.sv, .i .i64 2], r.2.1,
      (bif r.1 then o ⟨⟨a, b⟩, ⟨c, d⟩, ⟨e, f'⟩⟩ ⟨g, h⟩ n m else drOw ⟨⟨a, b⟩, ⟨c, d⟩, ⟨e, f'⟩⟩ ⟨g, h⟩) ++ r.2.2)
    | _, _ => none
  | _, _ => none
def dnE (K : Kk) (v w : V3) (g d : I) : List I × Int := evalK K dnP [d, g, w.z, w.y, w.x, v.z, v.y, v.x] 0
def dnR (K : Kk) (v w : V3) (al : I) : I × Int :=
  bif neB (ggR K gg1 v.z al).2 then (I.zero, (ggR K gg1 v.z al).2) else bif neB (ggR K ggD w.z al).2 then (I.zero, (ggR K ggD w.z al).2) else
  bif neB (dnE K v w (ggR K gg1 v.z al).1 (ggR K ggD w.z al).1).2 then (I.zero, (dnE K v w (ggR K gg1 v.z al).1 (ggR K ggD w.z al).1).2) else (gt (dnE K v w (ggR K gg1 v.z al).1 (ggR K ggD w.z al).1).1 0, 0)
def dnO (v w : V3) (al : I) : Obs := dirO w ++ dirO v ++ alO al
def kDn (f : V3 → V3 → I → I × Int) : List SV → Dec → Option (SV × Dec × Obs)
  | [.agg [.fl a, .fl b, .fl c, .fl d, .fl e, .fl f'], .agg [.fl a2, .fl b2, .fl c2, .fl d2, .fl e2, .fl f2], .agg [.fl g, .fl h]], ds =>
    some (.tup [.agg [.fl (f ⟨⟨a, b⟩, ⟨c, d⟩, ⟨e, f'⟩⟩ ⟨⟨a2, b2⟩, ⟨c2, d2⟩, ⟨e2, f2⟩⟩ ⟨g, h⟩).1.lo, .fl (f ⟨⟨a, b⟩, ⟨c, d⟩, ⟨e, f'⟩⟩ ⟨⟨a2, b2⟩, ⟨c2, d2⟩, ⟨e2, f2⟩⟩ ⟨g, h⟩).1.hi], .si .i64 (f ⟨⟨a, b⟩, ⟨c, d⟩, ⟨e, f'⟩⟩ ⟨⟨a2, b2⟩, ⟨c2, d2⟩, ⟨e2, f2⟩⟩ ⟨g, h⟩).2], ds, dnO ⟨⟨a, b⟩, ⟨c, d⟩, ⟨e, f'⟩⟩ ⟨⟨a2, b2⟩, ⟨c2, d2⟩, ⟨e2, f2⟩⟩ ⟨g, h⟩)
  | _, _ => none
/-- names for what the laws of layer 13 ask -/
structure Kw where
  K : Kk
  N : Kq
  vd : V3 → I → Int → Int → V3 × Int
  dn : V3 → V3 → I → I × Int
  fg : I → I → I × Int
  un : F → F → F → V3
  ub : F → F → F → Bool
  bw : F → F → Int → F
  pb : F → F → Bool
  wu : Int → Bool
  me : I → I → Bool
end Bu
namespace Bu
set_option linter.all false
open Rx Go

def nearO (a : I) (lo hi : Nat) : Obs := [(decide (a.lo.k ≤ a.hi.k), true), (decide (a.hi.k ≤ (toF hi).k), true), (decide ((toF lo).k ≤ a.lo.k), true)]
def zI : I := pt (toF 0)
def upV : V3 := ⟨zI, zI, pt one64⟩
def b13 : V3 := ⟨pt (toF 4603579539098121011), zI, pt (toF 4605380978949069210)⟩
def half13 : I := pt q2
def vo13 (W : Kw) (v : V3) (al : I) (a b : Int) : Obs := drO W.N v al a b ++ [(decide (al.hi.k ≤ one64.k), true)]
def aw13 (W : Kw) : Obs := nearO (W.dn upV upV half13).1 4608412980308558692 4608412980313062292 ++ nearO (W.vd b13 (pt one64) 4611686018427387904 0).1.y 4602678819154632513 4602678819181654111 ++ nearO (W.vd upV half13 0 0).1.z 4607182418800009216 4607182418800017408 ++ nearO (W.vd upV half13 0 0).1.x 13650410470559973376 4427038433705197568 ++
  [(decide ((W.dn upV upV half13).2 = 0), true), (decide ((W.vd b13 (pt one64) 4611686018427387904 0).2 = 0), true), (decide ((W.vd upV half13 0 0).2 = 0), true)] ++
  (drOw upV (pt (toF 4611686018427387904)) ++ [(decide ((pt (toF 4611686018427387904)).hi.k ≤ one64.k), false)]) ++ dnO upV upV half13 ++ vo13 W b13 (pt one64) 4611686018427387904 0 ++ vo13 W upV half13 0 0
/-- a direction by numbers -/
def d64 : F := toF 4580160821035794432
def oneV (W : Kw) (a b c : Int) : V3 := W.un (W.bw mone64 one64 a) (W.bw mone64 one64 b) (W.bw d64 one64 c)
def oneO (W : Kw) (a b c : Int) : Obs := [(decide (z64.k < (oneV W a b c).z.lo.k), true), (W.ub (W.bw mone64 one64 a) (W.bw mone64 one64 b) (W.bw d64 one64 c), true), (W.pb d64 one64, true), (W.wu c, true), (W.pb mone64 one64, true), (W.wu b, true), (W.pb mone64 one64, true), (W.wu a, true)]
def alF (W : Kw) (v : Int) : I := pt (W.bw minA one64 v)
def alFO (W : Kw) (v : Int) : Obs := [(W.pb minA one64, true), (W.wu v, true)]
def trV (W : Kw) (v : V3) : V3 := ⟨(W.K.neg 0 v.y).1, v.x, v.z⟩
def vtB (W : Kw) (a b c v d e : Int) : Obs := vo13 W (trV W (oneV W a b c)) (alF W v) d e ++ (vo13 W (oneV W a b c) (alF W v) d e ++ (alFO W v ++ oneO W a b c))
end Bu
namespace Bu
set_option linter.all false
open Rx Go

end Bu
namespace Bu
set_option linter.all false
open Rx Go

theorem sqrt_mk {a : I} (hr : rt a = true) (h0 : 0 ≤ a.lo.q) : ∃ r, cSqrt qSqrt 0 a = (r, 0) ∧ rt r = true ∧ SqD r.lo a.lo ∧ SqU r.hi a.hi := by
  have l := rt_le hr
  obtain ⟨x, e1, s1⟩ := (qSqrt_gen h0).1
  obtain ⟨y, e2, s2⟩ := (qSqrt_gen (a := a.hi) (by grind)).2
  refine ⟨⟨x, y⟩, ?_, sq_rt (r := ⟨x, y⟩) hr h0 s1 s2, s1, s2⟩
  unfold cSqrt
  rw [e1, e2, ends_mk rfl rfl, ask_mk hr rfl]
theorem quot_bd {x y d M : Rat} (hd : 0 < d) (hy : d ≤ y) (h1 : -(M * d) ≤ x) (h2 : x ≤ M * d) (hM : 0 ≤ M) : -M ≤ x / y ∧ x / y ≤ M := by
  have y0 : 0 < y := by grind
  have e : x / y * y = x := Rat.div_mul_cancel (by grind)
  have k := Rat.mul_nonneg hM (show 0 ≤ y - d by grind)
  generalize x / y = q at *
  constructor
  · refine Rat.le_of_mul_le_mul_right (c := y) ?_ y0
    grind
  · refine Rat.le_of_mul_le_mul_right (c := y) ?_ y0
    grind
theorem div_mk {a b : I} (ha : rt a = true) (hb : rt b = true) (h0 : 0 < b.lo.q) (h1 : -(9007199254740992 * b.lo.q) ≤ a.lo.q) (h2 : a.hi.q ≤ 9007199254740992 * b.lo.q) :
    ∃ r, cDiv pDiv 0 a b = (r, 0) ∧ AllR r (a.lo.q / b.lo.q) (a.lo.q / b.hi.q) (a.hi.q / b.lo.q) (a.hi.q / b.hi.q) := by
  have la := rt_le ha; have lb := rt_le hb
  have z : hasB b F.zero = false := by
    unfold hasB
    rw [hb, Bool.true_and, Bool.and_eq_false_iff, decide_eq_false_iff_not, decide_eq_false_iff_not]
    left; intro k; have := q_le.2 k; rw [q_zero] at this; grind
  obtain ⟨c, hc⟩ := low_ex
  obtain ⟨d, hd⟩ := big_ex
  have p1 := quot_bd (x := a.lo.q) (y := b.lo.q) h0 Rat.le_refl h1 (by grind) (by grind)
  have p2 := quot_bd (x := a.lo.q) (y := b.hi.q) h0 lb h1 (by grind) (by grind)
  have p3 := quot_bd (x := a.hi.q) (y := b.lo.q) h0 Rat.le_refl (by grind) h2 (by grind)
  have p4 := quot_bd (x := a.hi.q) (y := b.hi.q) h0 lb (by grind) h2 (by grind)
  obtain ⟨r, e, hr, _⟩ := all_has (div_four (a := a) hb z) (c := c) (d := d) (by rw [hc]; exact p1.1) (by rw [hc]; exact p2.1) (by rw [hc]; exact p3.1) (by rw [hc]; exact p4.1) (by rw [hd]; exact p1.2) (by rw [hd]; exact p2.2) (by rw [hd]; exact p3.2) (by rw [hd]; exact p4.2)
  refine ⟨r, ?_, hr⟩
  unfold cDiv
  rw [z, cond_false, e, ask_mk (by rw [ha, hb]; rfl) rfl]
theorem fl_ex (m : Int) (s : Nat) (hm : m.natAbs ≤ 9007199254740992) (hs : s ≤ 900) (w : Rat) (hw : ((2 ^ s : Nat) : Rat) * w = m) : ∃ c : F, c.q = w := by
  obtain ⟨c, hc⟩ := grid m hm s (by omega) (by omega)
  refine ⟨c, ?_⟩
  have hp := pow_q s
  generalize ((2 ^ s : Nat) : Rat) = p at *
  have : (c.q - w) * p = 0 := by grind
  rcases Rat.mul_eq_zero.1 this with e | e <;> grind
/-- a direction above the horizon -/
structure OneP (v : V3) : Prop where
  x : In1 v.x
  y : In1 v.y
  z : In1 v.z
  up : 1 / 128 ≤ v.z.lo.q
theorem pt_in {x : F} (h : N1 x) : In1 (pt x) := ⟨q_le.1 (by rw [mone_q]; exact h.lo), q_le.1 (by rw [one_q]; exact h.hi), Int.le_refl _⟩
theorem un_okE {x y z : F} (hx : N1 x) (hy : N1 y) (z0 : 1 / 64 ≤ z.q) (z1 : z.q ≤ 1) : (unE KkR x y z).2 = 0 ∧ OneP (unV KkR x y z) := by
  have hz : N1 z := ⟨by grind, z1⟩
  have ix := pt_in hx; have iy := pt_in hy; have iz := pt_in hz
  obtain ⟨qx, e1, a1, m1⟩ := sqr_in ix
  obtain ⟨qy, e2, a2, m2⟩ := sqr_in iy
  obtain ⟨s1, e3, d3, u3⟩ := cAdd_ok a1.sm a2.sm
  obtain ⟨qz, e4, a4, m4⟩ := sqr_in iz
  have l1 := a1.lo; have h1 := a1.hi; have r1 := a1.rt; have l2 := a2.lo; have h2 := a2.hi; have r2 := a2.rt
  obtain ⟨f2, g2⟩ := fl_ex 2 0 (by decide) (by decide) 2 (by decide +kernel)
  obtain ⟨f4, g4⟩ := fl_ex 4 0 (by decide) (by decide) 4 (by decide +kernel)
  have s1lo : 0 ≤ s1.lo.q := dn_nn d3 (by grind)
  have s1hi : s1.hi.q ≤ 2 := by have := u3.bot f2 (by rw [g2]; grind); rwa [g2] at this
  have s1rt : s1.lo.q ≤ s1.hi.q := by have := d3.le; have := u3.ge; grind
  have s1sm : Sm s1 := ⟨by grind, s1rt, by grind⟩
  obtain ⟨s2, e5, d5, u5⟩ := cAdd_ok s1sm a4.sm
  obtain ⟨f12, g12⟩ := fl_ex 1 12 (by decide) (by decide) (1 / 4096) (by decide +kernel)
  obtain ⟨f6, g6⟩ := fl_ex 1 6 (by decide) (by decide) (1 / 64) (by decide +kernel)
  obtain ⟨f7, g7⟩ := fl_ex 1 7 (by decide) (by decide) (1 / 128) (by decide +kernel)
  -- the square of z
  have qzlo : 1 / 4096 ≤ qz.lo.q := by
    obtain ⟨r, e, d, _⟩ := cSqr_ok iz.sm
    have e' : cSqr dMul 0 (pt z) = (qz, 0) := e4
    rw [e'] at e
    obtain rfl : qz = r := congrArg Prod.fst e
    have b := bare_ends (a := pt z) (decide_eq_true (Int.le_refl _))
    have hb : (bareI (pt z)).lo.q * (bareI (pt z)).lo.q = z.q * z.q := by
      rcases b.1 with k | k
      · have a := k.lo; have c := k.hi
        have : (bareI (pt z)).lo.q = z.q := by have : (pt z).lo.q = z.q := rfl; have : (pt z).hi.q = z.q := rfl; grind
        rw [this]
      · have a := k.lo; have c := k.hi
        have : -(bareI (pt z)).lo.q = z.q := by have : (pt z).lo.q = z.q := rfl; have : (pt z).hi.q = z.q := rfl; grind
        grind
    rw [hb] at d
    rw [← g12]
    refine d.top f12 ?_
    rw [g12]
    have := sq_bd (x := 1 / 64) (m := z.q) (by grind) z0
    grind
  have l4 := a4.lo; have h4 := a4.hi; have r4 := a4.rt
  have s2lo : 1 / 4096 ≤ s2.lo.q := by have := d5.top f12 (by rw [g12]; grind); rwa [g12] at this
  have s2hi : s2.hi.q ≤ 4 := by have := u5.bot f4 (by rw [g4]; grind); rwa [g4] at this
  have s2rt : s2.lo.q ≤ s2.hi.q := by have := d5.le; have := u5.ge; grind
  obtain ⟨nn, e6, r6, d6, u6⟩ := sqrt_mk (rt_q s2rt) (by grind)
  have nlo : 1 / 64 ≤ nn.lo.q := by have := d6.top f6 (by rw [g6]; grind) (by rw [g6]; grind); rwa [g6] at this
  have nhi : nn.hi.q ≤ 2 := by have := u6.bot f2 (by rw [g2]; grind) (by rw [g2]; grind); rwa [g2] at this
  have nrt := rt_le r6
  have pr : ∀ w : F, rt (pt w) = true := fun w => decide_eq_true (Int.le_refl _)
  have bd : ∀ {w : F}, N1 w → -(9007199254740992 * nn.lo.q) ≤ (pt w).lo.q ∧ (pt w).hi.q ≤ 9007199254740992 * nn.lo.q := by
    intro w hw
    have a := hw.lo; have b := hw.hi
    have : (pt w).lo.q = w.q := rfl
    have : (pt w).hi.q = w.q := rfl
    constructor <;> grind
  obtain ⟨dx, e7, _⟩ := div_mk (pr x) r6 (by grind) (bd hx).1 (bd hx).2
  obtain ⟨dy, e8, _⟩ := div_mk (pr y) r6 (by grind) (bd hy).1 (bd hy).2
  obtain ⟨dz, e9, h9⟩ := div_mk (pr z) r6 (by grind) (bd hz).1 (bd hz).2
  have hE : unE KkR x y z = ([withI dz, dz, withI dy, dy, withI dx, dx, nn, s2, qz, s1, qy, qx, pt z, pt y, pt x], 0) := by
    unfold unE unP
    refine (eval_cons (r := pt x) (e' := 0) ?_).trans ?_
    · exact rfl
    refine (eval_cons (r := pt y) (e' := 0) ?_).trans ?_
    · exact rfl
    refine (eval_cons (r := pt z) (e' := 0) ?_).trans ?_
    · exact rfl
    refine (eval_cons (r := qx) (e' := 0) ?_).trans ?_
    · exact e1
    refine (eval_cons (r := qy) (e' := 0) ?_).trans ?_
    · exact e2
    refine (eval_cons (r := s1) (e' := 0) ?_).trans ?_
    · exact e3
    refine (eval_cons (r := qz) (e' := 0) ?_).trans ?_
    · exact e4
    refine (eval_cons (r := s2) (e' := 0) ?_).trans ?_
    · exact e5
    refine (eval_cons (r := nn) (e' := 0) ?_).trans ?_
    · exact e6
    refine (eval_cons (r := dx) (e' := 0) ?_).trans ?_
    · exact e7
    refine (eval_cons (r := withI dx) (e' := 0) ?_).trans ?_
    · exact rfl
    refine (eval_cons (r := dy) (e' := 0) ?_).trans ?_
    · exact e8
    refine (eval_cons (r := withI dy) (e' := 0) ?_).trans ?_
    · exact rfl
    refine (eval_cons (r := dz) (e' := 0) ?_).trans ?_
    · exact e9
    refine (eval_cons (r := withI dz) (e' := 0) ?_).trans ?_
    · exact rfl
    rfl
  have hV : unV KkR x y z = ⟨withI dx, withI dy, withI dz⟩ := by unfold unV; rw [hE]; rfl
  rw [hV]
  refine ⟨by rw [hE], withI_in _, withI_in _, withI_in _, ?_⟩
  -- z by the length
  have pz : (pt z).lo.q = z.q ∧ (pt z).hi.q = z.q := ⟨rfl, rfl⟩
  have low : ∀ {w : Rat}, nn.lo.q ≤ w → w ≤ nn.hi.q → 1 / 128 ≤ z.q / w := by
    intro w w0 w1
    have e : z.q / w * w = z.q := Rat.div_mul_cancel (by grind)
    generalize z.q / w = t at *
    apply Rat.not_lt.1
    intro g
    have := Rat.mul_pos (show 0 < 1 / 128 - t by grind) (show 0 < w by grind)
    grind
  have dzlo : 1 / 128 ≤ dz.lo.q := by
    rw [← g7]
    have a := low Rat.le_refl nrt
    have b := low nrt Rat.le_refl
    refine h9.top ?_ ?_ ?_ ?_ <;> (rw [g7]; simp only [pz.1, pz.2]; assumption)
  have zn : z.q ≤ nn.hi.q := by
    refine sq_le' (by grind) (by grind) ?_
    have a := u6.ge
    have b := (m4 z.q ⟨Rat.le_refl, Rat.le_refl⟩).hi
    have c := u5.ge
    grind
  have top : z.q / nn.hi.q ≤ 1 := by
    have e : z.q / nn.hi.q * nn.hi.q = z.q := Rat.div_mul_cancel (by grind)
    generalize z.q / nn.hi.q = t at *
    apply Rat.not_lt.1
    intro g
    have := Rat.mul_pos (show 0 < t - 1 by grind) (show 0 < nn.hi.q by grind)
    grind
  have mz : Mem dz (z.q / nn.hi.q) := ⟨by have := h9.lo.2.1; simpa only [pz.1] using this, by have := h9.hi.2.1; simpa only [pz.1] using this⟩
  have b := low nrt Rat.le_refl
  show 1 / 128 ≤ (withI dz).lo.q
  rw [withI_eq mz (by grind) top]
  exact Rat.le_trans dzlo (mxF_q _ _).1
theorem un_ok {x y z : F} (hx : N1 x) (hy : N1 y) (z0 : 1 / 64 ≤ z.q) (z1 : z.q ≤ 1) : OneP (unV KkR x y z) := (un_okE hx hy z0 z1).2
theorem un_B {x y z : F} (hx : N1 x) (hy : N1 y) (z0 : 1 / 64 ≤ z.q) (z1 : z.q ≤ 1) : unB x y z = true := by
  have kt : decide (tiny64.k ≤ d64.k) = true := by decide +kernel
  have kh : decide (one64.k ≤ huge64.k) = true := by decide +kernel
  have kd : d64.q * 64 = 1 := q_of' (n := 1) (s := 6) (by decide +kernel) rfl
  have k1 := of_decide_eq_true kt
  have k2 := of_decide_eq_true kh
  have ab : ∀ {w : F}, N1 w → w.abs.k ≤ one64.k := by
    intro w hw
    have a := q_le.1 (show w.q ≤ one64.q by rw [one_q]; exact hw.hi)
    have b := q_le.1 (show mone64.q ≤ w.q by rw [mone_q]; exact hw.lo)
    have c : mone64.k = -one64.k := by decide +kernel
    show ((w.k.natAbs : Nat) : Int) ≤ _
    omega
  have z2 : d64.k ≤ z.abs.k := by
    have a := q_le.1 (show d64.q ≤ z.q by grind)
    show _ ≤ ((z.k.natAbs : Nat) : Int)
    omega
  have a := ab hx; have b := ab hy; have c := ab (w := z) ⟨by grind, z1⟩
  unfold unB mostF
  have e : (mxF (mxF x.abs y.abs) z.abs).k = max (max x.abs.k y.abs.k) z.abs.k := by rw [mxF_k, mxF_k]
  rw [e, Bool.and_eq_true, Bool.not_eq_true', Bool.not_eq_true', decide_eq_false_iff_not, decide_eq_false_iff_not]
  constructor <;> omega
end Bu
namespace Bu
set_option linter.all false
open Rx Go

def WR : Kw := ⟨KkR, KqR atR, fun v al a b => drR KkR (drEnv (KqR atR) v al a b), dnR KkR, ggR KkR ggF, unV KkR, unB, bwF, pairB, wN32, meetsB⟩
set_option maxRecDepth 100000 in
theorem aw13_ok : obsB (aw13 WR) = true := by decide +kernel
set_option maxRecDepth 100000 in
theorem aw13_p : pairB mone64 one64 = true ∧ pairB d64 one64 = true ∧ pairB minA one64 = true := by decide +kernel
end Bu
namespace Bu
set_option linter.all false
open Rx Go

/-- of al, c -/
def rg1 : List Op := [.sqr 1, .num (one64), .sqr 2, .sub 1 0, .sqr 4, .div 1 0, .num (q2), .num (one64), .mul 7 2, .add 1 0, .sqrt 0, .num (one64), .sub 1 0, .mul 6 0]
/-- of l -/
def rg1b : List Op := [.num (one64), .num (one64), .add 0 2, .div 2 0]
/-- of X, Y, Z, al, sin, cos, A -/
def rdP1 : List Op := [.mul 3 6, .mul 4 6, .num (one64), .sqr 2, .sqr 2, .add 1 0, .sqr 10, .add 1 0, .sqrt 0, .div 6 0, .mul 0 9, .mul 1 9, .mul 2 16, .kept mone64 one64 2, .kept mone64 one64 2, .kept z64 one64 2, .sqr 2, .sqr 2, .add 1 0]
/-- of X, Y, Z, al, sin, cos, A -/
def rdTa : List Op := [.mul 3 6, .mul 4 6, .num (one64), .sqr 2, .sqr 2, .add 1 0, .sqr 10, .add 1 0, .sqrt 0, .div 6 0, .mul 0 9, .mul 1 9, .mul 2 16, .kept mone64 one64 2, .kept mone64 one64 2, .kept z64 one64 2, .sqr 2, .sqr 2, .add 1 0, .lit (I.zero), .lit (I.zero), .lit (I.zero), .lit (⟨one64, one64⟩), .lit (I.zero), .lit (I.zero), .lit (I.zero)]
/-- of X, Y, Z, al, sin, cos, A -/
def rdTb : List Op := [.mul 3 6, .mul 4 6, .num (one64), .sqr 2, .sqr 2, .add 1 0, .sqr 10, .add 1 0, .sqrt 0, .div 6 0, .mul 0 9, .mul 1 9, .mul 2 16, .kept mone64 one64 2, .kept mone64 one64 2, .kept z64 one64 2, .sqr 2, .sqr 2, .add 1 0, .sqrt 0, .neg 5, .div 0 1, .kept mone64 one64 0, .div 9 3, .kept mone64 one64 0, .lit (I.zero)]
/-- of X, Y, Z, al, sin, cos, A -/
def rdA : List Op := [.mul 3 6, .mul 4 6, .num (one64), .sqr 2, .sqr 2, .add 1 0, .sqr 10, .add 1 0, .sqrt 0, .div 6 0, .mul 0 9, .mul 1 9, .mul 2 16, .kept mone64 one64 2, .kept mone64 one64 2, .kept z64 one64 2, .sqr 2, .sqr 2, .add 1 0, .lit (I.zero), .lit (I.zero), .lit (I.zero), .lit (⟨one64, one64⟩), .lit (I.zero), .lit (I.zero), .lit (I.zero), .mul 11 0, .mul 11 2, .sub 1 0, .mul 13 6, .mul 16 4, .sub 1 0, .mul 18 7, .mul 18 10, .sub 1 0, .sqrt 35, .mul 0 37, .num (q2), .num (one64), .add 0 23, .mul 2 0, .num (one64), .sqr 5, .sub 1 0, .num (z64), .max 1 0, .sqrt 0, .num (one64), .sub 0 7, .mul 0 2, .mul 14 52, .mul 10 0, .add 2 0, .num (one64), .sqr 17, .sub 1 0, .sqr 3, .sub 1 0, .num (z64), .max 1 0, .sqrt 0, .mul 24 38, .mul 25 37, .mul 26 37, .mul 11 35, .mul 12 33, .mul 13 31, .add 5 2, .add 5 2, .add 5 2, .mul 9 56, .mul 10 56, .mul 11 56, .add 5 2, .add 5 2, .add 5 2, .mul 79 2, .mul 80 2, .num (z64), .max 3 0, .num (one64), .sqr 4, .sqr 4, .add 1 0, .sqr 4, .add 1 0, .sqrt 0, .div 6 0, .mul 0 11, .mul 1 11, .mul 2 10, .kept mone64 one64 2, .kept mone64 one64 2, .kept z64 one64 2]
/-- of X, Y, Z, al, sin, cos, A -/
def rdB : List Op := [.mul 3 6, .mul 4 6, .num (one64), .sqr 2, .sqr 2, .add 1 0, .sqr 10, .add 1 0, .sqrt 0, .div 6 0, .mul 0 9, .mul 1 9, .mul 2 16, .kept mone64 one64 2, .kept mone64 one64 2, .kept z64 one64 2, .sqr 2, .sqr 2, .add 1 0, .sqrt 0, .neg 5, .div 0 1, .kept mone64 one64 0, .div 9 3, .kept mone64 one64 0, .lit (I.zero), .mul 11 0, .mul 11 2, .sub 1 0, .mul 13 6, .mul 16 4, .sub 1 0, .mul 18 7, .mul 18 10, .sub 1 0, .sqrt 35, .mul 0 37, .num (q2), .num (one64), .add 0 23, .mul 2 0, .num (one64), .sqr 5, .sub 1 0, .num (z64), .max 1 0, .sqrt 0, .num (one64), .sub 0 7, .mul 0 2, .mul 14 52, .mul 10 0, .add 2 0, .num (one64), .sqr 17, .sub 1 0, .sqr 3, .sub 1 0, .num (z64), .max 1 0, .sqrt 0, .mul 24 38, .mul 25 37, .mul 26 37, .mul 11 35, .mul 12 33, .mul 13 31, .add 5 2, .add 5 2, .add 5 2, .mul 9 56, .mul 10 56, .mul 11 56, .add 5 2, .add 5 2, .add 5 2, .mul 79 2, .mul 80 2, .num (z64), .max 3 0, .num (one64), .sqr 4, .sqr 4, .add 1 0, .sqr 4, .add 1 0, .sqrt 0, .div 6 0, .mul 0 11, .mul 1 11, .mul 2 10, .kept mone64 one64 2, .kept mone64 one64 2, .kept z64 one64 2]
end Bu
namespace Bu
set_option linter.all false
open Rx Go

theorem gt_drop' (u : List I) (p i : Nat) : gt (u.drop p) i = gt u (p + i) := by
  unfold gt
  rw [List.getD_eq_getElem?_getD, List.getD_eq_getElem?_getD, List.getElem?_drop]
def eqP (a b : F) : Bool := decide (a.k = b.k)
theorem eqP_ok {a b : F} (h : eqP a b = true) : a = b := F.ext' (of_decide_eq_true h)
/-- a row with other places -/
def mapO (f : Nat → Nat) : Bu.Op → Bu.Op
  | .add i j => .add (f i) (f j)
  | .sub i j => .sub (f i) (f j)
  | .mul i j => .mul (f i) (f j)
  | .div i j => .div (f i) (f j)
  | .max i j => .max (f i) (f j)
  | .sqr i => .sqr (f i)
  | .sqrt i => .sqrt (f i)
  | .neg i => .neg (f i)
  | .num x => .num x
  | .lit a => .lit a
  | .fn g i => .fn g (f i)
  | .fn2 g i j => .fn2 g (f i) (f j)
  | .kept l h i => .kept l h (f i)
  | .wi i => .wi (f i)
  | .hid i => .hid (f i)
/-- are all its places below n? -/
def ltO (n : Nat) : Bu.Op → Bool
  | .add i j | .sub i j | .mul i j | .div i j | .max i j | .fn2 _ i j => Nat.blt i n && Nat.blt j n
  | .sqr i | .sqrt i | .neg i | .fn _ i | .kept _ _ i | .wi i | .hid i => Nat.blt i n
  | .num _ | .lit _ => true
def sameO : Bu.Op → Bu.Op → Bool
  | .add i j, .add a b | .sub i j, .sub a b | .mul i j, .mul a b | .div i j, .div a b | .max i j, .max a b => Nat.beq i a && Nat.beq j b
  | .sqr i, .sqr a | .sqrt i, .sqrt a | .neg i, .neg a | .wi i, .wi a | .hid i, .hid a => Nat.beq i a
  | .num x, .num y => eqP x y
  | .num x, .lit a => eqP x a.lo && eqP x a.hi
  | .lit b, .lit a => eqP b.lo a.lo && eqP b.hi a.hi
  | .kept l h i, .kept l' h' a => eqP l l' && eqP h h' && Nat.beq i a
  | _, _ => false
theorem nbeq {a b : Nat} (h : Nat.beq a b = true) : a = b := Nat.eq_of_beq_eq_true h
theorem both' {a b : Bool} (h : (a && b) = true) : a = true ∧ b = true := by rwa [Bool.and_eq_true] at h
theorem sameO_ok {o o' : Bu.Op} (h : sameO o o' = true) (v : List I) : stepK KkR o v 0 = stepK KkR o' v 0 := by
  unfold sameO at h
  split at h
  all_goals first
    | (obtain ⟨h1, h2⟩ := both' h; rw [nbeq h1, nbeq h2]; done)
    | (rw [nbeq h]; done)
    | skip
  · rw [eqP_ok h]
  · rename_i x a
    obtain ⟨h1, h2⟩ := both' h
    have e1 := eqP_ok h1; have e2 := eqP_ok h2
    cases a
    simp only at e1 e2
    subst e1; subst e2
    rfl
  · rename_i b a
    obtain ⟨h1, h2⟩ := both' h
    have e1 := eqP_ok h1; have e2 := eqP_ok h2
    cases a; cases b
    simp only at e1 e2
    subst e1; subst e2
    rfl
  · obtain ⟨h12, h3⟩ := both' h
    obtain ⟨h1, h2⟩ := both' h12
    rw [eqP_ok h1, eqP_ok h2, nbeq h3]
  · cases h
def RelE (m : List Nat) (w v : List I) : Prop := ∀ i, i < m.length → gt w i = gt v (m.getD i 0)
theorem step_map {m : List Nat} {w v : List I} (h : RelE m w v) {o : Bu.Op} (ho : ltO m.length o = true) (e : Int) : stepK KkR (mapO (fun i => m.getD i 0) o) v e = stepK KkR o w e := by
  have L : ∀ {i : Nat}, Nat.blt i m.length = true → gt v (m.getD i 0) = gt w i := fun hi => (h _ (by rwa [Nat.blt_eq] at hi)).symm
  cases o <;> simp only [ltO, Bool.and_eq_true] at ho <;> simp only [mapO, stepK]
  all_goals first
    | rw [L ho.1, L ho.2]
    | rw [L ho]
theorem step_drop (v : List I) (k : Nat) (o : Bu.Op) (e : Int) : stepK KkR (mapO (fun i => k + i) o) v e = stepK KkR o (v.drop k) e := by
  cases o <;> simp only [mapO, stepK, gt_drop']
/-- the rows that were done, the last one first: what stands at their places is what they tell -/
def DoneE (D : List Bu.Op) (v : List I) : Prop := ∀ p o, D[p]? = some o → stepK KkR o (v.drop (p + 1)) 0 = (gt v p, 0)
theorem done_cons {D : List Bu.Op} {v : List I} {o : Bu.Op} {r : I} (h : DoneE D v) (ho : stepK KkR o v 0 = (r, 0)) : DoneE (o :: D) (r :: v) := by
  intro p q hp
  cases p with
  | zero => simp only [List.getElem?_cons_zero, Option.some.injEq] at hp; subst hp; exact ho
  | succ p => exact h p q (by simpa using hp)
theorem rel_own {m : List Nat} {w v : List I} (h : RelE m w v) (r : I) : RelE (m.map (· + 1)) w (r :: v) := by
  intro i hi
  rw [List.length_map] at hi
  rw [h i hi, List.getD_eq_getElem?_getD, List.getD_eq_getElem?_getD, List.getElem?_map]
  rw [List.getElem?_eq_getElem hi]; rfl
theorem rel_push {m : List Nat} {w v : List I} (h : RelE m w v) {r : I} {p : Nat} (hr : r = gt v p) : RelE (p :: m) (r :: w) v := by
  intro i hi
  cases i with
  | zero => exact hr
  | succ i => exact h i (by simpa using hi)
def isOp (D : List Bu.Op) (p : Nat) (t : Bu.Op → Bool) : Bool := match D[p]? with
  | some o => t o
  | none => false
theorem isOp_ok {D : List Bu.Op} {p : Nat} {t : Bu.Op → Bool} (h : isOp D p t = true) : ∃ o, D[p]? = some o ∧ t o = true := by
  unfold isOp at h
  split at h
  · rename_i o e; exact ⟨o, e, h⟩
  · cases h
/-- rows that can't fail: a number; 1 less the half of 1 and what is kept within 0 and 1 -/
def is1 : Bu.Op → Bool
  | .num x => eqP x one64
  | _ => false
def isH : Bu.Op → Bool
  | .num x => eqP x q2
  | _ => false
def isK : Bu.Op → Bool
  | .kept l h _ => eqP l z64 && eqP h one64
  | _ => false
def ownO (D : List Bu.Op) : Bu.Op → Bool
  | .num _ => true
  | .sub i j => isOp D i is1 && (match D[j]? with
    | some (.mul a b) => isOp D (j + 1 + a) isH && (match D[j + 1 + b]? with
      | some (.add c d) => isOp D (j + 1 + b + 1 + c) is1 && isOp D (j + 1 + b + 1 + d) isK
      | _ => false)
    | _ => false)
  | _ => false
theorem num_at {D : List Bu.Op} {v : List I} (h : DoneE D v) {p : Nat} {x : F} (hp : isOp D p (fun o => match o with | .num y => eqP y x | _ => false) = true) : gt v p = ⟨x, x⟩ := by
  obtain ⟨o, e, t⟩ := isOp_ok hp
  cases o with
  | num y =>
    rw [eqP_ok t] at e
    have k : ((⟨x, x⟩ : I), (0 : Int)) = (gt v p, 0) := h p _ e
    exact (Prod.mk.inj k).1.symm
  | _ => cases t
def bx01 : I := ⟨z64, one64⟩
def bx1 : I := ⟨one64, one64⟩
def bxh : I := ⟨q2, q2⟩
theorem own_box : (cAdd dAdd 0 bx1 bx01).2 = 0 ∧ (cMul dMul 0 bxh (cAdd dAdd 0 bx1 bx01).1).2 = 0 ∧ (cSub dSub 0 bx1 (cMul dMul 0 bxh (cAdd dAdd 0 bx1 bx01).1).1).2 = 0 := by decide +kernel
theorem step_add (i j : Nat) (v : List I) (e : Int) : stepK KkR (.add i j) v e = cAdd dAdd e (gt v i) (gt v j) := rfl
theorem step_mul (i j : Nat) (v : List I) (e : Int) : stepK KkR (.mul i j) v e = cMul dMul e (gt v i) (gt v j) := rfl
theorem step_sub (i j : Nat) (v : List I) (e : Int) : stepK KkR (.sub i j) v e = cSub dSub e (gt v i) (gt v j) := rfl
theorem kept01 {a : I} {r : I} (h : r = keptI a z64 one64) (hr : rt r = true) : Inn r bx01 := by
  have zk : z64.k ≤ one64.k := by decide +kernel
  obtain ⟨e1, e2⟩ := keptI_k a z64 one64
  refine ⟨q_le.2 ?_, q_le.2 ?_, hr⟩
  · show z64.k ≤ r.lo.k
    rw [h, e1]; omega
  · show r.hi.k ≤ one64.k
    rw [h, e2]; omega
theorem own_ok {D : List Bu.Op} {v : List I} (h : DoneE D v) {o : Bu.Op} (ho : ownO D o = true) : ∃ r, stepK KkR o v 0 = (r, 0) := by
  cases o with
  | num x => exact ⟨⟨x, x⟩, rfl⟩
  | sub i j =>
    unfold ownO at ho
    obtain ⟨h1, h2⟩ := both' ho
    split at h2
    · rename_i a b ej
      obtain ⟨h3, h4⟩ := both' h2
      split at h4
      · rename_i c d eb
        obtain ⟨h5, h6⟩ := both' h4
        have v1 : gt v i = bx1 := num_at (x := one64) h (by
          obtain ⟨o, e, t⟩ := isOp_ok h1
          unfold isOp; rw [e]; cases o <;> first | exact t | cases t)
        have v2 : gt v (j + 1 + a) = bxh := num_at (x := q2) h (by
          obtain ⟨o, e, t⟩ := isOp_ok h3
          unfold isOp; rw [e]; cases o <;> first | exact t | cases t)
        have v3 : gt v (j + 1 + b + 1 + c) = bx1 := num_at (x := one64) h (by
          obtain ⟨o, e, t⟩ := isOp_ok h5
          unfold isOp; rw [e]; cases o <;> first | exact t | cases t)
        obtain ⟨o, ek, t⟩ := isOp_ok h6
        have sj := h j _ ej
        have sb := h (j + 1 + b) _ eb
        have sd := h (j + 1 + b + 1 + d) _ ek
        rw [step_mul, gt_drop', gt_drop'] at sj
        rw [step_add, gt_drop', gt_drop', v3] at sb
        rw [v2] at sj
        have hd : ∃ x, gt v (j + 1 + b + 1 + d) = keptI x z64 one64 := by
          cases o with
          | kept l u s =>
            obtain ⟨t1, t2⟩ := both' t
            rw [eqP_ok t1, eqP_ok t2] at sd
            exact ⟨_, (Prod.mk.inj sd).1.symm⟩
          | _ => cases t
        obtain ⟨x, hx⟩ := hd
        obtain ⟨w1, w2, w3⟩ := own_box
        have ra : rt (gt v (j + 1 + b + 1 + d)) = true := (add_0 (show (cAdd dAdd 0 bx1 (gt v (j + 1 + b + 1 + d))).2 = 0 by rw [sb])).2.2.1
        have i1 := kept01 hx ra
        have I1 : ∀ {a : I}, a.lo.k ≤ a.hi.k → Inn a a := fun k => Inn.refl (decide_eq_true k)
        obtain ⟨r1, e1, n1⟩ := add_inn (I1 (a := bx1) (by decide +kernel)) i1 w1
        rw [e1] at sb
        have f1 := (Prod.mk.inj sb).1
        rw [← f1] at sj
        obtain ⟨r2, e2, n2⟩ := mul_inn (I1 (a := bxh) (by decide +kernel)) n1 w2
        rw [e2] at sj
        have f2 := (Prod.mk.inj sj).1
        obtain ⟨r3, e3, _⟩ := sub_inn (I1 (a := bx1) (by decide +kernel)) n2 w3
        rw [step_sub, v1, ← f2]
        exact ⟨r3, e3⟩
      · cases h4
    · cases h2
  | _ => cases ho
/-- of a number's place the oldest one that has the same number -/
def oldest (x : F) : List Bu.Op → Nat → Option Nat
  | [], _ => none
  | d :: D, p => match oldest x D (p + 1) with
    | some q => some q
    | none => match d with
      | .num y => bif eqP y x then some p else none
      | _ => none
theorem oldest_ok {x : F} {L : List Bu.Op} : ∀ {D : List Bu.Op} {p q : Nat}, (∀ i, D[i]? = L[p + i]?) → oldest x D p = some q → L[q]? = some (.num x)
  | [], _, _, _, h => by cases h
  | d :: D, p, q, hD, h => by
    have h0 : L[p]? = some d := by have := hD 0; simpa using this.symm
    unfold oldest at h
    split at h
    · rename_i r hr
      simp only [Option.some.injEq] at h
      subst h
      exact oldest_ok (p := p + 1) (fun i => by have := hD (i + 1); rw [show p + 1 + i = p + (i + 1) from by omega, ← this]; rfl) hr
    · cases d with
      | num y =>
        simp only at h
        cases c : eqP y x
        · rw [c] at h; cases h
        · rw [c] at h
          have e : p = q := by simpa using h
          subst e; rw [h0, eqP_ok c]
      | _ => cases h
def cn (L : List Bu.Op) (i : Nat) : Nat := match L[i]? with
  | some (.num x) => (oldest x L 0).getD i
  | _ => i
theorem num_v {D : List Bu.Op} {v : List I} (h : DoneE D v) {p : Nat} {x : F} (e : D[p]? = some (.num x)) : gt v p = ⟨x, x⟩ := by
  have k : ((⟨x, x⟩ : I), (0 : Int)) = (gt v p, 0) := h p _ e
  exact (Prod.mk.inj k).1.symm
theorem cn_ok {L : List Bu.Op} {v : List I} (h : DoneE L v) (i : Nat) : gt v (cn L i) = gt v i := by
  unfold cn
  split
  · rename_i x e
    cases c : oldest x L 0 with
    | none => rfl
    | some q =>
      have e2 := oldest_ok (fun i => by rw [Nat.zero_add]) c
      show gt v q = gt v i
      rw [num_v h e, num_v h e2]
  · rfl
theorem step_cn {L : List Bu.Op} {v : List I} (h : DoneE L v) (o : Bu.Op) (e : Int) : stepK KkR (mapO (cn L) o) v e = stepK KkR o v e := by
  cases o <;> simp only [mapO, stepK, cn_ok h]
def findD (L : List Bu.Op) (o : Bu.Op) : List Bu.Op → Nat → Option Nat
  | [], _ => none
  | d :: D, p => match findD L o D (p + 1) with
    | some q => some q
    | none => bif sameO (mapO (cn L) (mapO (fun i => p + 1 + i) d)) o then some p else none
theorem findD_ok {o : Bu.Op} {L : List Bu.Op} : ∀ {D : List Bu.Op} {p q : Nat}, (∀ i, D[i]? = L[p + i]?) → findD L o D p = some q → ∃ d, L[q]? = some d ∧ sameO (mapO (cn L) (mapO (fun i => q + 1 + i) d)) o = true
  | [], _, _, _, h => by cases h
  | d :: D, p, q, hD, h => by
    have h0 : L[p]? = some d := by have := hD 0; simpa using this.symm
    unfold findD at h
    split at h
    · rename_i r hr
      simp only [Option.some.injEq] at h
      subst h
      exact findD_ok (p := p + 1) (fun i => by have := hD (i + 1); rw [show p + 1 + i = p + (i + 1) from by omega, ← this]; rfl) hr
    · cases c : sameO (mapO (cn L) (mapO (fun i => p + 1 + i) d)) o
      · rw [c] at h; cases h
      · rw [c] at h
        have e : p = q := by simpa using h
        subst e; exact ⟨d, h0, c⟩
/-- steps side by side -/
def sim : Nat → List Bu.Op → List Bu.Op → List Bu.Op → List Nat → Option (List Nat)
  | 0, _, _, _, _ => none
  | n + 1, P, R, D, m =>
    let own : Option (List Nat) := match P with
      | o :: P' => bif ownO D o then sim n P' R (o :: D) (m.map (· + 1)) else none
      | [] => none
    match R with
    | [] => match P with
      | [] => some m
      | _ :: _ => own
    | o' :: R' => bif ltO m.length o' then
        (match P with
        | o :: P' => bif sameO (mapO (cn D) o) (mapO (cn D) (mapO (fun i => m.getD i 0) o')) then sim n P' R' (o :: D) (0 :: m.map (· + 1)) else
          (match findD D (mapO (cn D) (mapO (fun i => m.getD i 0) o')) D 0 with
          | some p => sim n P R' D (p :: m)
          | none => own)
        | [] => match findD D (mapO (cn D) (mapO (fun i => m.getD i 0) o')) D 0 with
          | some p => sim n P R' D (p :: m)
          | none => none) else none
/-- both end alike -/
def Alike (k : List Nat) (p r : List I × Int) : Prop := p.2 = r.2 ∧ (p.2 = 0 → RelE k r.1 p.1)
theorem alike_err {k : List Nat} {P R : List Bu.Op} {v w : List I} {e : Int} (he : e ≠ 0) : Alike k (evalK KkR P v e) (evalK KkR R w e) := by
  refine ⟨by rw [eval_kept he, eval_kept he], fun h => ?_⟩
  rw [eval_kept he] at h; exact absurd h he
theorem sim_ok : ∀ {n : Nat} {P R D : List Bu.Op} {m k : List Nat} {v w : List I}, sim n P R D m = some k → DoneE D v → RelE m w v → Alike k (evalK KkR P v 0) (evalK KkR R w 0)
  | 0, _, _, _, _, _, _, _, h, _, _ => by cases h
  | n + 1, P, R, D, m, k, v, w, h, hD, hR => by
    have own : ∀ {R : List Bu.Op}, (match P with
        | o :: P' => bif ownO D o then sim n P' R (o :: D) (m.map (· + 1)) else none
        | [] => none) = some k → Alike k (evalK KkR P v 0) (evalK KkR R w 0) := by
      intro R h
      cases P with
      | nil => cases h
      | cons o P' =>
        simp only at h
        cases c : ownO D o
        · rw [c] at h; cases h
        · rw [c, cond_true] at h
          obtain ⟨r, er⟩ := own_ok hD c
          rw [eval_cons er]
          exact sim_ok h (done_cons hD er) (rel_own hR r)
    have dup : ∀ {o' : Bu.Op} {R' : List Bu.Op}, ltO m.length o' = true → ∀ {p : Nat}, findD D (mapO (cn D) (mapO (fun i => m.getD i 0) o')) D 0 = some p → sim n P R' D (p :: m) = some k → Alike k (evalK KkR P v 0) (evalK KkR (o' :: R') w 0) := by
      intro o' R' hl p hf hs
      obtain ⟨d, e1, e2⟩ := findD_ok (L := D) (fun i => by rw [Nat.zero_add]) hf
      have s1 := hD p d e1
      have s2 : stepK KkR o' w 0 = (gt v p, 0) := by
        rw [← step_map hR hl, ← step_cn hD, ← sameO_ok e2, step_cn hD, step_drop]; exact s1
      rw [eval_cons s2]
      exact sim_ok hs hD (rel_push hR rfl)
    unfold sim at h
    cases R with
    | nil =>
      cases P with
      | nil => simp only [Option.some.injEq] at h; subst h; exact ⟨rfl, fun _ => hR⟩
      | cons o P' => exact own (R := []) h
    | cons o' R' =>
      simp only at h
      cases c : ltO m.length o'
      · rw [c] at h; cases h
      · rw [c, cond_true] at h
        cases P with
        | nil =>
          simp only at h
          split at h
          · rename_i p hf
            exact dup c hf h
          · cases h
        | cons o P' =>
          simp only at h
          cases c2 : sameO (mapO (cn D) o) (mapO (cn D) (mapO (fun i => m.getD i 0) o'))
          · rw [c2, cond_false] at h
            split at h
            · rename_i p hf
              exact dup c hf h
            · exact own (R := o' :: R') h
          · rw [c2, cond_true] at h
            have s : stepK KkR o v 0 = stepK KkR o' w 0 := (step_cn hD o 0).symm.trans ((sameO_ok c2 v).trans ((step_cn hD _ 0).trans (step_map hR c 0)))
            cases e : stepK KkR o v 0 with
            | mk r i =>
              rw [e] at s
              rw [eval_cons e, eval_cons s.symm]
              by_cases z : i = 0
              · subst z
                refine sim_ok h (done_cons hD e) ?_
                exact rel_push (rel_own hR r) rfl
              · exact alike_err z
theorem sim_all {l r : List Bu.Op} {k : List Nat} {n : Nat} {m : List Nat} (h : sim n l r [] m = some k) {v w : List I} (hR : RelE m w v) : Alike k (evalK KkR l v 0) (evalK KkR r w 0) := sim_ok h (fun p o hp => by simp at hp) hR
theorem rel_id {n : Nat} {v : List I} : RelE (List.range n) v v := by
  intro i hi
  rw [List.length_range] at hi
  rw [List.getD_eq_getElem?_getD, List.getElem?_range hi]; rfl
def simP1 : Option (List Nat) := sim 200 drP1 rdP1 [] (List.range 7)
def simTa : Option (List Nat) := sim 200 drTa rdTa [] (List.range 7)
def simTb : Option (List Nat) := sim 200 drTb rdTb [] (List.range 7)
def simA : Option (List Nat) := sim 200 drA rdA [] (List.range 7)
def simB : Option (List Nat) := sim 200 drB rdB [] (List.range 7)
def at1 (s : Option (List Nat)) (i j : Nat) : Bool := match s with
  | some k => Nat.blt i k.length && Nat.beq (k.getD i 0) j
  | none => false
set_option maxRecDepth 100000 in
theorem sims : (at1 simP1 0 0 && simTa.isSome && simTb.isSome && at1 simA 2 2 && at1 simA 1 1 && at1 simA 0 0 && at1 simB 2 2 && at1 simB 1 1 && at1 simB 0 0) = true := by decide +kernel
end Bu
