/- Widened intervals, intervals by numbers (burnishlow.widen, Span). Numbers between any two within -1 and 1; parts of vectors. Layer 11: PairsWithin, by the reckoner. Layer 11: parts of directions, plain. Layer 11's row: PairsWithin. PairsWithin: what is told of intervals has what is told of those within them. -/
import Derived.Test.YtlhlcefkmhhmjaaGreatZ20
import Derived.Test.YtlhlcefkmhhmjaaGreatZ24
import Derived.Test.YtlhlcefkmhhmjaaGreatRows
import Derived.Test.YtlhlcefkmhhmjaaGreatZ01
namespace Bu
set_option linter.all false
open Rx Go

/-- an interval about another one -/
def wdI (a : I) (y l : F) : I := ⟨mxF (sf (fsu a.lo y)) l, mnF (sf (fad a.hi y)) one64⟩
def f4_ : F := toF 4616189618054758400
/-- no number is beyond 4 -/
def wdP (a : I) (y : F) : Bool := decide (f4_.neg.k ≤ a.lo.k) && decide (a.lo.k ≤ f4_.k) && decide (f4_.neg.k ≤ a.hi.k) && decide (a.hi.k ≤ f4_.k) && decide (f4_.neg.k ≤ y.k) && decide (y.k ≤ f4_.k)
def kWd (f : I → F → F → I) (p : I → F → Bool) : List SV → Dec → Option (SV × Dec × Obs)
  | [.agg [.fl a, .fl b], .fl y, .fl l], ds => some (.agg [.fl (f ⟨a, b⟩ y l).lo, .fl (f ⟨a, b⟩ y l).hi], ds, [(p ⟨a, b⟩ y, true)])
  | _, _ => none
def spF (f : F → F → Int → F) (a b : F) (u v : Int) : I := bif decide ((f a b v).k < (f a b u).k) then ⟨f a b v, f a b u⟩ else ⟨f a b u, f a b v⟩
def kSp (f : F → F → Int → Int → I) (p : F → F → Bool) (w : Int → Bool) : List SV → Dec → Option (SV × Dec × Obs)
  | [.fl a, .fl b, x, y], ds => match intS x, intS y with
    | some (.u32, n), some (.u32, m) => some (.agg [.fl (f a b n m).lo, .fl (f a b n m).hi], ds, [(p a b, true), (w n, true), (w m, true)])
    | _, _ => none
  | _, _ => none
theorem wd_ok {a : I} {y : F} (h : wdP a y = true) : obsB (so (fsu a.lo y)) = true ∧ obsB (so (fad a.hi y)) = true := by
  unfold wdP at h
  simp only [Bool.and_eq_true, decide_eq_true_iff] at h
  obtain ⟨⟨⟨⟨⟨p1, p2⟩, p3⟩, p4⟩, p5⟩, p6⟩ := h
  have c : f4_.q = 4 := q_int (n := 4) (by decide +kernel)
  have q1 := q_le.2 p1; have q2 := q_le.2 p2; have q3 := q_le.2 p3; have q4 := q_le.2 p4; have q5 := q_le.2 p5; have q6 := q_le.2 p6
  rw [q_neg, c] at q1 q3 q5
  rw [c] at q2 q4 q6
  obtain ⟨g, hg⟩ := big_ex
  obtain ⟨D, e, _⟩ := sub_nr (x := a.lo) (y := y) (g := g) (by grind) (by grind)
  obtain ⟨D', e', _⟩ := add_nr (x := a.hi) (y := y) (g := g) (by grind) (by grind)
  exact ⟨(so_ok (show fsu a.lo y = some D.b from e)).1, (so_ok (show fad a.hi y = some D'.b from e')).1⟩
end Bu
namespace Go.Proofs.YtlhlcefkmhhmjaaGreat
set_option linter.all false
open Go.RowKit Bu Rx

def wdX (a : I) (y l : F) (d1 d2 : Bool) : I := ⟨bif d1 then l else sf (fsu a.lo y), bif d2 then one64 else sf (fad a.hi y)⟩
theorem wdRun (a b y l : F) (d1 d2 : Bool) : valR ((run Tryz.prog EG OIM 80).1 37 [.agg [.fl a, .fl b], .fl y, .fl l] [] (some [d1, d2])) = some (.agg [.fl (sf (fad (wdX ⟨a, b⟩ y l d1 d2).lo (toF 0))), .fl (sf (fad (wdX ⟨a, b⟩ y l d1 d2).hi (toF 0)))], some [], so (fad (wdX ⟨a, b⟩ y l d1 d2).hi (toF 0)) ++ so (fad (wdX ⟨a, b⟩ y l d1 d2).lo (toF 0)) ++ (decide (one64.k < (sf (fad b y)).k), d2) :: (decide ((sf (fsu a y)).k < l.k), d1) :: (so (fad b y) ++ so (fsu a y))) := by cases d1 <;> cases d2 <;> kernel_rfl
theorem wdG : PlainOk Tryz.prog 37 (kWd wdI wdP) := by
  intro args ds x ds' ob h ho
  unfold kWd at h
  split at h
  · rename_i a b y l
    simp only [Option.some.injEq, Prod.mk.injEq] at h; obtain ⟨rfl, _, rfl⟩ := h
    have hp : wdP ⟨a, b⟩ y = true := ho _ (List.mem_cons_self ..)
    obtain ⟨o1, o2⟩ := wd_ok hp
    refine ⟨[.agg #[.float .f64 a.b, .float .f64 b.b], .float .f64 y.b, .float .f64 l.b], _, rfl, rfl, fun w => ?_⟩
    have r := wdRun a b y l (decide ((sf (fsu a y)).k < l.k)) (decide (one64.k < (sf (fad b y)).k))
    have e : wdX ⟨a, b⟩ y l (decide ((sf (fsu a y)).k < l.k)) (decide (one64.k < (sf (fad b y)).k)) = wdI ⟨a, b⟩ y l := by
      unfold wdX wdI
      refine congr (congrArg I.mk (F.ext' ?_)) (F.ext' ?_)
      · show _ = (mxF (sf (fsu a y)) l).k
        rw [mxF_k]
        cases g : decide ((sf (fsu a y)).k < l.k)
        · have := of_decide_eq_false g; show (sf (fsu a y)).k = _; omega
        · have := of_decide_eq_true g; show l.k = _; omega
      · show _ = (mnF (sf (fad b y)) one64).k
        rw [mnF_k]
        cases g : decide (one64.k < (sf (fad b y)).k)
        · have := of_decide_eq_false g; show (sf (fad b y)).k = _; omega
        · have := of_decide_eq_true g; show one64.k = _; omega
    rw [e] at r
    obtain ⟨z1, z2⟩ := so_ok (fad_zero (wdI ⟨a, b⟩ y l).lo)
    obtain ⟨z3, z4⟩ := so_ok (fad_zero (wdI ⟨a, b⟩ y l).hi)
    rw [z2, z4] at r
    exact calls_of_val goodG oracleIM 80 r (ObsOk.of_B (ob2 (ob2 z3 z1) (obsB_yes rfl (obsB_yes rfl (ob2 o2 o1))))) rfl rfl w
  · cases h
def OSp (f : F → F → Int → F) (p : F → F → Bool) (w : Int → Bool) : OracleF := lookO [(23, plainO (kBw f p w))]
theorem spRun (f : F → F → Int → F) (p : F → F → Bool) (w : Int → Bool) (a b : F) (n m : Int) (d : Bool) : valR ((run Tryz.prog EG (OSp f p w) 80).1 38 [.fl a, .fl b, .si .u32 n, .si .u32 m] [] (some [d])) = some (.agg [.fl (bif d then f a b m else f a b n), .fl (bif d then f a b n else f a b m)], some [], [(decide ((f a b m).k < (f a b n).k), d), (p a b, true), (w m, true), (p a b, true), (w n, true)]) := by cases d <;> kernel_rfl
end Go.Proofs.YtlhlcefkmhhmjaaGreat
namespace Bu
set_option linter.all false
open Rx Go Ieee

theorem mul_zero0 {x y : F} (hx : 0 ≤ x.k) (hy : 0 ≤ y.k) (h : x.k = 0 ∨ y.k = 0) : double.mul x.b y.b = some F.zero.b := by
  unfold Format.mul
  rw [read_F, read_F]
  simp only [Datum.product, Option.map_some, Format.write]
  have m : man x.k.natAbs * man y.k.natAbs = 0 := by
    rcases h with h | h
    · rw [show x.k.natAbs = 0 by omega, show man 0 = 0 from rfl, Nat.zero_mul]
    · rw [show y.k.natAbs = 0 by omega, show man 0 = 0 from rfl, Nat.mul_zero]
  rw [m, decide_eq_false (show ¬ x.k < 0 by omega), decide_eq_false (show ¬ y.k < 0 by omega)]
  show some (double.nearest false 0 _) = _
  unfold Format.nearest
  rw [if_pos rfl]
  rfl
/-- two numbers in order, within -1 and 1 -/
def parB (a b : F) : Bool := decide (mone64.k ≤ a.k) && (decide (a.k ≤ b.k) && decide (b.k ≤ one64.k))
theorem par_ok {a b : F} {n : Int} (hp : parB a b = true) (h : wN32 n = true) : obsB (bwO a b n) = true := by
  unfold parB at hp
  simp only [Bool.and_eq_true, decide_eq_true_iff] at hp
  obtain ⟨p1, p2, p3⟩ := hp
  obtain ⟨t, e1, t0, t1, hr⟩ := frT_ok h
  obtain ⟨o1, o2⟩ := so_ok e1
  have eT : frT n = t := o2
  have q1 := q_le.2 p1; have q2 := q_le.2 p2; have q3 := q_le.2 p3
  rw [mone_q] at q1; rw [one_q] at q3
  obtain ⟨g, hg⟩ := big_ex
  obtain ⟨D, e2, d⟩ := sub_nr (x := b) (y := a) (g := g) (by grind) (by grind)
  obtain ⟨o3, o4⟩ := so_ok (show fsu b a = some D.b from e2)
  have D0 : 0 ≤ D.q := by have := d.dn F.zero (by rw [q_zero]; grind); rwa [q_zero] at this
  obtain ⟨f2, g2⟩ : ∃ f : F, f.q = 2 := ⟨two64, q_int (n := 2) (by decide +kernel)⟩
  have D2 : D.q ≤ 2 := by have := d.up f2 (by rw [g2]; grind); rwa [g2] at this
  have Dk : 0 ≤ D.k := by have := q_le.1 (show F.zero.q ≤ D.q by rw [q_zero]; exact D0); exact this
  have hm : ∃ p : F, fmu D t = some p.b ∧ 0 ≤ p.q ∧ p.q ≤ 2 := by
    by_cases c : D.k = 0 ∨ t.k = 0
    · exact ⟨F.zero, mul_zero0 Dk t0 c, by rw [q_zero]; exact Rat.le_refl, by rw [q_zero]; grind⟩
    · obtain ⟨p, e, a0, a1⟩ := mul_le1 (x := D) (y := t) (by omega) (by omega) t1
      have b0 := q_le.2 a1
      have b1 := q_le.2 (show F.zero.k ≤ p.k from a0)
      rw [q_zero] at b1
      exact ⟨p, e, b1, by grind⟩
  obtain ⟨p, e3, r0, r1⟩ := hm
  obtain ⟨o5, o6⟩ := so_ok e3
  have eD : sf (fsu b a) = D := o4
  have eP : bwP a b n = p := by unfold bwP; rw [eT, eD]; exact o6
  obtain ⟨E, e4, _⟩ := add_nr (x := a) (y := p) (g := g) (by grind) (by grind)
  obtain ⟨o7, _⟩ := so_ok (show fad a p = some E.b from e4)
  unfold bwO
  rw [eP, eT, eD]
  exact ob2 (ob2 (ob2 (ob2 o7 o5) o1) (obsB_yes hr obsB_nil)) o3
theorem spF_in {a b : F} {u v : Int} (h : a.k ≤ b.k) : InB (spF bwF a b u v) ⟨a, b⟩ := by
  have x := bwF_in (n := u) h
  have y := bwF_in (n := v) h
  unfold spF
  cases c : decide ((bwF a b v).k < (bwF a b u).k)
  · have := of_decide_eq_false c
    exact ⟨x.1, y.2, by show (bwF a b u).k ≤ (bwF a b v).k; omega⟩
  · have := of_decide_eq_true c
    exact ⟨y.1, x.2, by show (bwF a b v).k ≤ (bwF a b u).k; omega⟩
/-- an interval about another one -/
theorem wd_in {a : I} {y l : F} (h : In1 a) (hl : l.k ≤ a.hi.k) (hm : mone64.k ≤ l.k) (h1 : l.k ≤ one64.k) (y0 : 0 ≤ y.q) (y1 : y.q ≤ 1) : l.k ≤ (wdI a y l).lo.k ∧ (wdI a y l).lo.k ≤ (wdI a y l).hi.k ∧ (wdI a y l).hi.k ≤ one64.k := by
  obtain ⟨g, hg⟩ := big_ex
  have a1 := q_le.2 h.lo; have a2 := q_le.2 h.hi; have a3 := q_le.2 h.rt
  rw [mone_q] at a1; rw [one_q] at a2
  obtain ⟨D, e1, d1⟩ := sub_nr (x := a.lo) (y := y) (g := g) (by grind) (by grind)
  obtain ⟨E, e2, d2⟩ := add_nr (x := a.hi) (y := y) (g := g) (by grind) (by grind)
  have x1 : sf (fsu a.lo y) = D := (so_ok (show fsu a.lo y = some D.b from e1)).2
  have x2 : sf (fad a.hi y) = E := (so_ok (show fad a.hi y = some E.b from e2)).2
  have k1 : D.k ≤ a.lo.k := q_le.1 (d1.up a.lo (by grind))
  have k2 : a.hi.k ≤ E.k := q_le.1 (d2.dn a.hi (by grind))
  have r := h.rt; have u := h.hi
  unfold wdI
  rw [x1, x2]
  refine ⟨?_, ?_, ?_⟩
  · show l.k ≤ (mxF D l).k; rw [mxF_k]; omega
  · show (mxF D l).k ≤ (mnF E one64).k; rw [mxF_k, mnF_k]; omega
  · show (mnF E one64).k ≤ one64.k; rw [mnF_k]; omega
end Bu
namespace Go.Proofs.YtlhlcefkmhhmjaaGreat
set_option linter.all false
open Go.RowKit Bu Rx

/-- intervals within -1 and 1, by numbers -/
theorem bpG : PlainOk Tryz.prog 23 (kBw bwF parB wN32) := by
  intro args ds x ds' ob h ho
  unfold kBw at h
  split at h
  · rename_i a b u
    split at h
    · rename_i n hk
      simp only [Option.some.injEq, Prod.mk.injEq] at h; obtain ⟨rfl, _, rfl⟩ := h
      have hp : parB a b = true := ho _ (List.mem_cons_self ..)
      have hn : wN32 n = true := ho (_, true) (List.mem_cons_of_mem _ (List.mem_cons_self ..))
      have hO := par_ok hp hn
      refine ⟨[.float .f64 a.b, .float .f64 b.b, .int .u32 n], .float .f64 (bwF a b n).b, plains_cons rfl (plains_cons rfl (plains_cons (intS_plain hk) plains_nil)), rfl, fun w => ?_⟩
      unfold bwF
      cases h1 : decide ((bwX a b n).k < a.k)
      · cases h2 : decide (b.k < (bwX a b n).k)
        · exact calls_of_val goodG oracleIM 80 (bwRun a b n) (ObsOk.of_B (obsB_yes h2 (obsB_yes h1 hO))) rfl rfl w
        · exact calls_of_val goodG oracleIM 80 (bwRun2 a b n) (ObsOk.of_B (obsB_yes h2 (obsB_yes h1 hO))) rfl rfl w
      · exact calls_of_val goodG oracleIM 80 (bwRun1 a b n) (ObsOk.of_B (obsB_yes h1 hO)) rfl rfl w
    · cases h
  · cases h
theorem oracleSi : OracleOk Tryz.prog (OSp bwF parB wN32) := .cons bpG.of (.nil _)
theorem siG : PlainOk Tryz.prog 38 (kSp (spF bwF) parB wN32) := by
  intro args ds x ds' ob h ho
  unfold kSp at h
  split at h
  · rename_i a b x y
    split at h
    · rename_i n m e1 e2
      simp only [Option.some.injEq, Prod.mk.injEq] at h; obtain ⟨rfl, _, rfl⟩ := h
      have hp : parB a b = true := ho _ (List.mem_cons_self ..)
      have h1 : wN32 n = true := ho (_, true) (List.mem_cons_of_mem _ (List.mem_cons_self ..))
      have h2 : wN32 m = true := ho (_, true) (List.mem_cons_of_mem _ (List.mem_cons_of_mem _ (List.mem_cons_self ..)))
      refine ⟨[.float .f64 a.b, .float .f64 b.b, .int .u32 n, .int .u32 m], _, plains_cons rfl (plains_cons rfl (plains_cons (intS_plain e1) (plains_cons (intS_plain e2) plains_nil))), rfl, fun w => ?_⟩
      have r := spRun bwF parB wN32 a b n m (decide ((bwF a b m).k < (bwF a b n).k))
      unfold spF
      cases d : decide ((bwF a b m).k < (bwF a b n).k) <;> rw [d] at r <;> exact calls_of_val goodG oracleSi 80 r (ObsOk.of_B (obsB_yes rfl (obsB_yes hp (obsB_yes h2 (obsB_yes hp (obsB_yes h1 obsB_nil)))))) rfl rfl w
    · cases h
  · cases h
/-- is one within the other? -/
def inB2 (a b : I) : Bool := decide (b.lo.k ≤ a.lo.k) && decide (a.hi.k ≤ b.hi.k)
theorem inRun0 (a b c d : F) : valR ((run Tryz.prog EG OIM 80).1 15 [.agg [.fl a, .fl b], .agg [.fl c, .fl d]] [] (some [false])) = some (.b false, some [], [(decide (c.k ≤ a.k), false)]) := by kernel_rfl
theorem inRun1 (a b c d : F) (h : Bool) : valR ((run Tryz.prog EG OIM 80).1 15 [.agg [.fl a, .fl b], .agg [.fl c, .fl d]] [] (some [true, h])) = some (.b h, some [], [(decide (b.k ≤ d.k), h), (decide (c.k ≤ a.k), true)]) := by cases h <;> kernel_rfl
theorem inG : PlainOk Tryz.prog 15 (kBII inB2) := by
  intro args ds x ds' ob h ho
  unfold kBII at h
  split at h
  · rename_i a b c d
    simp only [Option.map_eq_some_iff, Prod.mk.injEq] at h
    obtain ⟨⟨r, e, o⟩, h1, rfl, rfl, rfl⟩ := h
    have hd : r = inB2 ⟨a, b⟩ ⟨c, d⟩ := takeB_ok h1 ho
    subst hd
    refine ⟨[.agg #[.float .f64 a.b, .float .f64 b.b], .agg #[.float .f64 c.b, .float .f64 d.b]], .bool (inB2 ⟨a, b⟩ ⟨c, d⟩), rfl, rfl, fun w => ?_⟩
    unfold inB2
    cases h1 : decide (c.k ≤ a.k)
    · exact calls_of_val goodG oracleIM 80 (inRun0 a b c d) (ObsOk.of_B (obsB_yes h1 obsB_nil)) rfl rfl w
    · cases h2 : decide (b.k ≤ d.k)
      · exact calls_of_val goodG oracleIM 80 (inRun1 a b c d false) (ObsOk.of_B (obsB_yes h2 (obsB_yes h1 obsB_nil))) rfl rfl w
      · exact calls_of_val goodG oracleIM 80 (inRun1 a b c d true) (ObsOk.of_B (obsB_yes h2 (obsB_yes h1 obsB_nil))) rfl rfl w
  · cases h
end Go.Proofs.YtlhlcefkmhhmjaaGreat
namespace Bu
set_option linter.all false
open Rx Go

def wxD (y : Int) : Option Nat := fdv (toF (FloatKind.f64.nearest y)) (toF 4643211215818981376)
def wxF (y : Int) : F := sf (wxD y)
/-- what PairsWithin calls beyond the others -/
structure Nm where
  N : Nl
  wi : I → F → F → I
  wp : I → F → Bool
  sp : F → F → Int → Int → I
  pp : F → F → Bool
  wu : Int → Bool
  ii : I → I → Bool
def wdV (M : Nm) (v : V3) (y : F) : V3 := ⟨M.wi v.x y mone64, M.wi v.y y mone64, M.wi v.z y z64⟩
def wdO (M : Nm) (v : V3) (y : F) (o : Obs) : Obs := (M.wp v.z y, true) :: (M.wp v.y y, true) :: (M.wp v.x y, true) :: o
def inV (M : Nm) (v : V3) (u : U6) : V3 := ⟨M.sp v.x.lo v.x.hi u.a0 u.a1, M.sp v.y.lo v.y.hi u.a2 u.a3, M.sp v.z.lo v.z.hi u.a4 u.a5⟩
def inO (M : Nm) (v : V3) (u : U6) (o : Obs) : Obs := (M.pp v.z.lo v.z.hi, true) :: (M.wu u.a4, true) :: (M.wu u.a5, true) :: (M.pp v.y.lo v.y.hi, true) :: (M.wu u.a2, true) :: (M.wu u.a3, true) :: (M.pp v.x.lo v.x.hi, true) :: (M.wu u.a0, true) :: (M.wu u.a1, true) :: o
end Bu
namespace Go.Proofs.YtlhlcefkmhhmjaaGreat
set_option linter.all false
open Go.RowKit Bu Rx

def OL11b (M : Nm) : OracleF := lookO [(6, plainO (kLe M.N.lk M.N.lf M.N.lo)), (7, plainO (kTw M.N.ta M.N.tb M.N.tw)), (9, plainO (fun a ds => kVal M.N.vg M.N.vo (normA a) ds)), (10, plainO (fun a ds => kDe M.N.dg M.N.dO (normA a) ds)), (12, plainO (oConst (.b true))), (37, plainO (kWd M.wi M.wp)), (38, plainO (kSp M.sp M.pp M.wu)), (15, plainO (kBII M.ii))]
/-- the wide leaf, the narrow one -/
def wdL (M : Nm) (u : U8) (v : U6) (y c : Int) : Lf := ⟨M.N.lk u, etaF (M.N.lf u), chI c, wdV M (M.N.ta v) (wxF y), wdV M (M.N.tb v) (wxF y)⟩
def nrL (M : Nm) (u : U8) (v : U6) (y c : Int) (w x : U6) : Lf := ⟨M.N.lk u, etaF (M.N.lf u), chI c, inV M (wdV M (M.N.ta v) (wxF y)) w, inV M (wdV M (M.N.tb v) (wxF y)) x⟩
def pwI (M : Nm) (a b : I × Int) (t : Bool) (o : Obs) : Obs := bif t then (neB a.2, true) :: o else (M.ii b.1 a.1, true) :: (decide (b.2 = 0), true) :: (neB a.2, false) :: o
def pwO (M : Nm) (u : U8) (v : U6) (y c : Int) (w x : U6) (b1 b2 : Bool) : Obs :=
  pwI M (M.N.dg (wdL M u v y c).c0) (M.N.dg (nrL M u v y c w x).c0) b2 (pwI M (M.N.vg (wdL M u v y c)) (M.N.vg (nrL M u v y c w x)) b1
    (M.N.dO (nrL M u v y c w x).c0 ++ (M.N.dO (wdL M u v y c).c0 ++ (M.N.vo (nrL M u v y c w x) ++ (M.N.vo (wdL M u v y c) ++
      inO M (wdV M (M.N.tb v) (wxF y)) x (inO M (wdV M (M.N.ta v) (wxF y)) w (wdO M (M.N.tb v) (wxF y) (wdO M (M.N.ta v) (wxF y) (so (wxD y) ++ [(rightB (FloatKind.f64.nearest y), true), (M.N.tw v, true), (M.N.lo u, true)])))))))))
def pwD (b : Bool) : List Bool := bif b then [true] else [false, true, true]
theorem pwRun (M : Nm) (u : U8) (v : U6) (y c : Int) (w x : U6) (b1 b2 : Bool) : valR ((run Tryz.prog EG (OL11b M) 80).1 4 [u.sv, v.sv, .si .u8 y, .si .u8 c, w.sv, x.sv] [] (some (pwD b1 ++ pwD b2))) = some (.b true, some [], pwO M u v y c w x b1 b2) := by cases b1 <;> cases b2 <;> kernel_rfl
end Go.Proofs.YtlhlcefkmhhmjaaGreat
namespace Go.Proofs.YtlhlcefkmhhmjaaGreat
set_option linter.all false
open Go.RowKit Bu Rx

theorem lnR_inv {E : List I × Int} {i : Nat} (h : (lnR E i).2 = 0) : E.2 = 0 := by
  unfold lnR at h
  cases c : neB E.2
  · exact neB_0 c
  · rw [c] at h; exact h
theorem ggR_inv {p : List Bu.Op} {c al : I} (h : (ggR KkR p c al).2 = 0) : (evalK KkR p [c, al] 0).2 = 0 := by
  unfold ggR ggE at h
  cases e : neB (evalK KkR p [c, al] 0).2
  · exact neB_0 e
  · rw [e] at h; exact h
theorem bif_0 {e x : Int} (h : (bif neB e then e else x) = 0) : e = 0 ∧ x = 0 := by
  cases c : neB e
  · rw [c] at h; exact ⟨neB_0 c, h⟩
  · rw [c, cond_true] at h; rw [h] at c; cases c
set_option maxRecDepth 100000 in
theorem gl_inv {v u : V3} {al : I} (h : (glR KkR GlR v u al).2 = 0) : (miE v u).2 = 0 ∧ (evalK KkR ggD [lnI v u, al] 0).2 = 0 ∧ (evalK KkR gg2 [u.z, v.z, al] 0).2 = 0 ∧ (evalK KkR gg1 [u.z, al] 0).2 = 0 ∧ (giE v u al).2 = 0 := by
  have e0 : glErr KkR GlR v u al = 0 := by
    unfold glR at h
    cases c : neB (glErr KkR GlR v u al)
    · exact neB_0 c
    · rw [c, cond_true] at h; exact h
  unfold glErr at e0
  obtain ⟨a1, e1⟩ := bif_0 e0
  obtain ⟨a2, e2⟩ := bif_0 e1
  obtain ⟨a3, e3⟩ := bif_0 e2
  obtain ⟨a4, a5⟩ := bif_0 e3
  have eH : GlR.H v u = miE v u := rfl
  rw [eH] at a1
  have h1 : glH GlR v u = (lnI v u, hfI v u) := by unfold glH; rw [eH, lnR_0 a1, lnR_0 a1]; rfl
  rw [h1] at a2
  have b2 : (evalK KkR ggD [lnI v u, al] 0).2 = 0 := ggR_inv a2
  have b3 : (evalK KkR gg2 [u.z, v.z, al] 0).2 = 0 := by
    have q : GlR.b = fun c d al => lnR (g2K KkR c d al) 0 := rfl
    rw [q] at a3
    exact lnR_inv a3
  have b4 : (evalK KkR gg1 [u.z, al] 0).2 = 0 := ggR_inv a4
  have h2 : GlR.d (lnI v u) al = (Da v u al, 0) := ggR_0 b2
  have h3 : GlR.b v.z u.z al = (Ga v u al, 0) := by
    have q : GlR.b = fun c d al => lnR (g2K KkR c d al) 0 := rfl
    rw [q]
    have e3 : (g2K KkR v.z u.z al).2 = 0 := b3
    show lnR (g2K KkR v.z u.z al) 0 = _
    rw [lnR_0 e3]
    rfl
  have h4 : GlR.o u.z al = (Gb u al, 0) := ggR_0 b4
  have h5 : glE KkR GlR v u al = giE v u al := by unfold glE; rw [h1, h2, h3, h4]; rfl
  rw [h5] at a5
  exact ⟨a1, b2, b3, b4, a5⟩
/-- a vector within another one -/
structure InV3 (a b : V3) : Prop where
  x : InB a.x b.x
  y : InB a.y b.y
  z : InB a.z b.z
theorem inb_refl {a : I} (h : rt a = true) : InB a a := ⟨Int.le_refl _, Int.le_refl _, of_decide_eq_true h⟩
structure GlI (v u v' u' : V3) (al : I) : Prop where
  e : glR KkR GlR v u al = (⟨lnI v u, hfI v u, giV v u al, giD v u al⟩, 0)
  e' : glR KkR GlR v' u' al = (⟨lnI v' u', hfI v' u', giV v' u' al, giD v' u' al⟩, 0)
  gh : InB (hfI v u) (hfI v' u')
  gv : InB (giV v u al) (giV v' u' al)
  gd : InB (giD v u al) (giD v' u' al)
theorem gl_inn {v u v' u' : V3} {al : I} (hv : InV3 v v') (hu : InV3 u u') (ha : rt al = true) (h : (glR KkR GlR v' u' al).2 = 0) : GlI v u v' u' al := by
  obtain ⟨a1, a2, a3, a4, a5⟩ := gl_inv h
  obtain ⟨m1, m2, m3, m4, m5, m6, m7⟩ := q_mono
  have ia := inb_refl ha
  have b1 := box (v := [u.z, u.y, u.x, v.z, v.y, v.x]) (w := [u'.z, u'.y, u'.x, v'.z, v'.y, v'.x]) m1 ⟨hu.z, hu.y, hu.x, hv.z, hv.y, hv.x, trivial⟩ a1
  have b2 := box (v := [lnI v u, al]) (w := [lnI v' u', al]) m4 ⟨(b1.2 0).inB, ia, trivial⟩ a2
  have b3 := box (v := [u.z, v.z, al]) (w := [u'.z, v'.z, al]) m2 ⟨hu.z, hv.z, ia, trivial⟩ a3
  have b4 := box (v := [u.z, al]) (w := [u'.z, al]) m3 ⟨hu.z, ia, trivial⟩ a4
  have b5 := box (v := [Gb u al, Ga v u al, Da v u al, u.z, v.z]) (w := [Gb u' al, Ga v' u' al, Da v' u' al, u'.z, v'.z]) m5 ⟨(b4.2 0).inB, (b3.2 0).inB, (b2.2 0).inB, hu.z, hv.z, trivial⟩ a5
  have q1 : InB (hfI v u) (hfI v' u') := (b1.2 3).inB
  have q2 : InB (giV v u al) (giV v' u' al) := (b5.2 3).inB
  have q3 : InB (giD v u al) (giD v' u' al) := (b5.2 0).inB
  exact ⟨gl_of b1.1 b2.1 b3.1 b4.1 b5.1, gl_of a1 a2 a3 a4 a5, q1, q2, q3⟩
theorem glM_inv {g : Gl4 × Int} {r : I × Int} (h : (glM KkR g r).2 = 0) : g.2 = 0 ∧ r.2 = 0 ∧ (KkR.mul 0 g.1.v r.1).2 = 0 ∧ glM KkR g r = ((KkR.mul 0 g.1.v r.1).1, 0) := by
  unfold glM at *
  cases c1 : neB g.2
  · cases c2 : neB r.2
    · cases c3 : neB (KkR.mul 0 g.1.v r.1).2
      · exact ⟨neB_0 c1, neB_0 c2, neB_0 c3, rfl⟩
      · rw [c1, c2, c3] at h
        have h' : (KkR.mul 0 g.1.v r.1).2 = 0 := h
        rw [h'] at c3; cases c3
    · rw [c1, c2] at h
      have h' : r.2 = 0 := h
      rw [h'] at c2; cases c2
  · rw [c1] at h
    have h' : g.2 = 0 := h
    rw [h'] at c1; cases c1
theorem glM_in {g : Gl4} {f : I} (h : (KkR.mul 0 g.v f).2 = 0) : glM KkR (g, 0) (f, 0) = ((KkR.mul 0 g.v f).1, 0) := by
  unfold glM
  simp only []
  rw [h]
  rfl
def InR (b a : I × Int) : Prop := a.2 = 0 → b.2 = 0 ∧ inB2 b.1 a.1 = true
theorem inr_of {b a : I} (h : InB b a) : inB2 b a = true := by
  unfold inB2; rw [Bool.and_eq_true]; exact ⟨decide_eq_true h.1, decide_eq_true h.2.1⟩
theorem inr_refl (a : I × Int) : InR a a := fun h => ⟨h, by unfold inB2; rw [Bool.and_eq_true]; exact ⟨decide_eq_true (Int.le_refl _), decide_eq_true (Int.le_refl _)⟩⟩
/-- a product with what a mirror reflects -/
theorem glM_inn {g g' : Gl4 × Int} {r r' : I × Int} (hg : g'.2 = 0 → g.2 = 0 ∧ InB g.1.v g'.1.v) (hr : g'.2 = 0 → r'.2 = 0 → r.2 = 0 ∧ InB r.1 r'.1) : InR (glM KkR g r) (glM KkR g' r') := by
  intro h
  obtain ⟨g0, r0, m0, e⟩ := glM_inv h
  obtain ⟨a, b⟩ := hg g0
  obtain ⟨c, d⟩ := hr g0 r0
  rw [e]
  obtain ⟨x, e2, n2⟩ := mul_inn b.inn d.inn (show (cMul dMul 0 g'.1.v r'.1).2 = 0 from m0)
  have m1 : KkR.mul 0 g.1.v r.1 = (x, 0) := e2
  obtain ⟨g, eg⟩ := g
  obtain ⟨r, er⟩ := r
  simp only at a c m1
  subst a; subst c
  rw [glM_in (congrArg Prod.snd m1)]
  refine ⟨rfl, inr_of ?_⟩
  rw [show (KkR.mul 0 g.v r).1 = x from congrArg Prod.fst m1]
  exact n2.inB
/-- what a mirror reflects, of parts -/
theorem ln_inn {E E' : List I × Int} (h : E'.2 = 0 → E.2 = 0 ∧ InB (gt E.1 0) (gt E'.1 0)) : (lnR E' 0).2 = 0 → (lnR E 0).2 = 0 ∧ InB (lnR E 0).1 (lnR E' 0).1 := by
  intro k
  have k' := lnR_inv k
  obtain ⟨a, b⟩ := h k'
  rw [lnR_0 a, lnR_0 k']
  exact ⟨rfl, b⟩
theorem mir_inn {g g' : Gl4 × Int} {Fn : I → List I × Int} (hm : ∀ x y, InB x y → (Fn y).2 = 0 → (Fn x).2 = 0 ∧ InB (gt (Fn x).1 0) (gt (Fn y).1 0)) (hv : g'.2 = 0 → g.2 = 0 ∧ InB g.1.v g'.1.v ∧ InB g.1.hf g'.1.hf) :
    InR (glM KkR g (lnR (Fn g.1.hf) 0)) (glM KkR g' (lnR (Fn g'.1.hf) 0)) :=
  glM_inn (fun g0 => ⟨(hv g0).1, (hv g0).2.1⟩) (fun g0 => ln_inn fun e => hm _ _ (hv g0).2.2 e)
theorem gl_inn3 {v u v' u' : V3} {al : I} (hv : InV3 v v') (hu : InV3 u u') (ha : rt al = true) (h : (glR KkR GlR v' u' al).2 = 0) : (glR KkR GlR v u al).2 = 0 ∧ InB (glR KkR GlR v u al).1.v (glR KkR GlR v' u' al).1.v ∧ InB (glR KkR GlR v u al).1.hf (glR KkR GlR v' u' al).1.hf := by
  have q := gl_inn hv hu ha h
  rw [q.e, q.e']
  exact ⟨rfl, q.gv, q.gh⟩
theorem fdK_eq (h r : I) : fdK KkR h r = evalK KkR frD [h, r] 0 := rfl
theorem fcK_eq (h r s : I) : fcK KkR h r s = evalK KkR frC [h, r, s] 0 := rfl
theorem dtK_eq (v u : V3) : dtK KkR v u = evalK KkR dtP [u.z, u.y, u.x, v.z, v.y, v.x] 0 := rfl
theorem orV_eq (r s sl : I) : orV r s sl = gt (evalK KkR orT [sl, s, r] 0).1 0 := rfl
theorem lbK_eq2 (a : I) : lbK KkR a = evalK KkR lbV [a] 0 := rfl
theorem fd_mono {r : I} (hr : rt r = true) (x y : I) (h : InB x y) : (fdK KkR y r).2 = 0 → (fdK KkR x r).2 = 0 ∧ InB (gt (fdK KkR x r).1 0) (gt (fdK KkR y r).1 0) := by
  rw [fdK_eq, fdK_eq]
  intro e
  have t := box (v := [x, r]) (w := [y, r]) q_mono.2.2.2.2.2.1 ⟨h, inb_refl hr, trivial⟩ e
  exact ⟨t.1, (t.2 0).inB⟩
theorem fc_mono {r s : I} (hr : rt r = true) (hs : rt s = true) (x y : I) (h : InB x y) : (fcK KkR y r s).2 = 0 → (fcK KkR x r s).2 = 0 ∧ InB (gt (fcK KkR x r s).1 0) (gt (fcK KkR y r s).1 0) := by
  rw [fcK_eq, fcK_eq]
  intro e
  have t := box (v := [x, r, s]) (w := [y, r, s]) q_mono.2.2.2.2.2.2 ⟨h, inb_refl hr, inb_refl hs, trivial⟩ e
  exact ⟨t.1, (t.2 0).inB⟩
theorem dt_mono {v u v' u' : V3} (hv : InV3 v v') (hu : InV3 u u') : (dtK KkR v' u').2 = 0 → (dtK KkR v u).2 = 0 ∧ InB (dtV v u) (dtV v' u') := by
  unfold dtV
  rw [dtK_eq, dtK_eq]
  intro e
  have t := box (v := [u.z, u.y, u.x, v.z, v.y, v.x]) (w := [u'.z, u'.y, u'.x, v'.z, v'.y, v'.x]) box_lb.2.2.2.2.2.1 ⟨hu.z, hu.y, hu.x, hv.z, hv.y, hv.x, trivial⟩ e
  exact ⟨t.1, (t.2 0).inB⟩
theorem orV_mono {r s sl sl' : I} (h1 : Uz1 r) (h2 : Uz1 s) (n : InB sl sl') (hb : B11 sl') : InB (orV r s sl) (orV r s sl') := by
  rw [orV_eq, orV_eq]
  have t := box (v := [sl, s, r]) (w := [sl', s, r]) or_box.2.1 ⟨n, inb_refl h2.rt, inb_refl h1.rt, trivial⟩ (orV_box h1 h2 hb)
  exact (t.2 0).inB
theorem orR_inn {r s i o d i' o' d' : I} (h1 : Uz1 r) (h2 : Uz1 s) (hi : InB i i') (ho : InB o o') (hd : InB d d') : InR (orR KkR r s i o d) (orR KkR r s i' o' d') := by
  intro h
  obtain ⟨sl', s', e'⟩ := or_to h1 h2 h
  obtain ⟨sl, s, n⟩ := sl_inn hi.inn ho.inn hd.inn s'
  rw [e', or_eq h1 h2 s]
  exact ⟨rfl, inr_of (orV_mono h1 h2 n.inB (sl_b s'))⟩
theorem meO_z (f : Nat → F) (c : Nat) (v u : V3) (h : (meO KkR GmR f c v u).2 = 0) : (dtK KkR v u).2 = 0 := by
  unfold meO at h
  generalize dtK KkR v u = d at *
  cases e : neB d.2
  · exact neB_0 e
  · rw [e, cond_true] at h; exact h
theorem meO_inn {f : Nat → F} {c : Nat} {v u v' u' : V3} (hv : InV3 v v') (hu : InV3 u u') (h1 : Uz1 (pF (f c))) (h2 : Uz1 (pF (f 12))) : InR (meO KkR GmR f c v u) (meO KkR GmR f c v' u') := by
  intro h
  have z' := meO_z _ _ _ _ h
  obtain ⟨z, n⟩ := dt_mono hv hu z'
  rw [meO_eq z'] at h
  rw [meO_eq z', meO_eq z]
  exact orR_inn h1 h2 hv.z hu.z n h
theorem val3_eq (G : Gm) (K : Kk) (f : Nat → F) (c : Int) (v u : V3) : vlG G K ⟨3, f, c, v, u⟩ = meP K G f v u := rfl
theorem val4_eq (G : Gm) (K : Kk) (f : Nat → F) (c : Int) (v u : V3) : vlG G K ⟨4, f, c, v, u⟩ = meM K G f c.toNat v u := rfl
theorem gm_gl : GmR.gl = glR KkR GlR := by simp only [GmR]
theorem gm_dl : GmR.dl = fun c n => lnR (fdK KkR c n) 0 := by simp only [GmR]
theorem gm_cd : GmR.cd = fun c m n => lnR (fcK KkR c m n) 0 := by simp only [GmR]
theorem pF_rt (x : F) : rt (pF x) = true := decide_eq_true (Int.le_refl _)
theorem val1_eq (G : Gm) (K : Kk) (f : Nat → F) (c : Int) (v u : V3) : vlG G K ⟨1, f, c, v, u⟩ = meL G f c.toNat := rfl
theorem val2_eq (G : Gm) (K : Kk) (f : Nat → F) (c : Int) (v u : V3) : vlG G K ⟨2, f, c, v, u⟩ = meO K G f c.toNat v u := rfl
theorem meP_inn {f : Nat → F} {v u v' u' : V3} (hv : InV3 v v') (hu : InV3 u u') : InR (meP KkR GmR f v u) (meP KkR GmR f v' u') := by
  unfold meP
  rw [gm_gl, gm_dl]
  exact mir_inn (Fn := fun h => fdK KkR h (pF (f 14))) (fd_mono (pF_rt _)) (gl_inn3 hv hu (pF_rt _))
theorem meM_inn {f : Nat → F} {c : Nat} {v u v' u' : V3} (hv : InV3 v v') (hu : InV3 u u') : InR (meM KkR GmR f c v u) (meM KkR GmR f c v' u') := by
  unfold meM
  rw [gm_gl, gm_cd]
  exact mir_inn (Fn := fun h => fcK KkR h (pF (f (6 + c))) (pF (f (9 + c)))) (fc_mono (pF_rt _) (pF_rt _)) (gl_inn3 hv hu (pF_rt _))
/-- what PairsWithin says -/
theorem val_inn {l m : Lf} (hl : LfO l) (ek : m.k = l.k) (ef : m.f = l.f) (ec : m.c = l.c) (hv : InV3 m.v l.v) (hu : InV3 m.u l.u) : InR (vlG GmR KkR m) (vlG GmR KkR l) := by
  obtain ⟨k, f, c, v, u⟩ := m
  obtain ⟨k', f', c', v', u'⟩ := l
  simp only at ek ef ec hv hu
  subst ek; subst ef; subst ec
  have r := hl.r; have n := hl.n
  simp only at r n
  rcases rt_kind r with e | e | e | e <;> subst e
  · rw [val1_eq, val1_eq]; exact inr_refl _
  · rw [val2_eq, val2_eq]
    obtain ⟨a, b⟩ := rt2_in r n
    exact meO_inn hv hu (uz_of a) (uz_of b)
  · rw [val3_eq, val3_eq]; exact meP_inn hv hu
  · rw [val4_eq, val4_eq]; exact meM_inn hv hu
theorem lb_inn {a b : I} (h : InB a b) : InR (lnR (lbK KkR a) 0) (lnR (lbK KkR b) 0) := by
  intro e
  have e' := lnR_inv e
  have t : (lbK KkR a).2 = 0 ∧ InB (gt (lbK KkR a).1 0) (gt (lbK KkR b).1 0) := by
    rw [lbK_eq2] at e'
    rw [lbK_eq2, lbK_eq2]
    have t := box (v := [a]) (w := [b]) box_lb.1 ⟨h, trivial⟩ e'
    exact ⟨t.1, (t.2 0).inB⟩
  rw [lnR_0 e', lnR_0 t.1]
  exact ⟨rfl, inr_of t.2⟩
theorem gm_lb : GmR.lb = fun r => lnR (lbK KkR r) 0 := by simp only [GmR]
theorem gd_inn {v u v' u' : V3} {al : I} (hv : InV3 v v') (hu : InV3 u u') (ha : rt al = true) : InR ((glR KkR GlR v u al).1.d, (glR KkR GlR v u al).2) ((glR KkR GlR v' u' al).1.d, (glR KkR GlR v' u' al).2) := by
  intro e
  have q := gl_inn hv hu ha e
  rw [q.e, q.e']
  exact ⟨rfl, inr_of q.gd⟩
theorem den1_eq (G : Gm) (f : Nat → F) (c : Int) (v u : V3) : dnG4 G ⟨1, f, c, v, u⟩ = G.lb v.z := rfl
theorem den2_eq (G : Gm) (f : Nat → F) (c : Int) (v u : V3) : dnG4 G ⟨2, f, c, v, u⟩ = G.lb v.z := rfl
theorem den3_eq (G : Gm) (f : Nat → F) (c : Int) (v u : V3) : dnG4 G ⟨3, f, c, v, u⟩ = ((G.gl v u (pF (f 13))).1.d, (G.gl v u (pF (f 13))).2) := rfl
theorem den4_eq (G : Gm) (f : Nat → F) (c : Int) (v u : V3) : dnG4 G ⟨4, f, c, v, u⟩ = ((G.gl v u (pF (f 13))).1.d, (G.gl v u (pF (f 13))).2) := rfl
theorem den_inn {l m : Lf} (hl : LfO l) (ek : m.k = l.k) (ef : m.f = l.f) (hv : InV3 m.v l.v) (hu : InV3 m.u l.u) : InR (dnG4 GmR m) (dnG4 GmR l) := by
  obtain ⟨k, f, c, v, u⟩ := m
  obtain ⟨k', f', c', v', u'⟩ := l
  simp only at ek ef hv hu
  subst ek; subst ef
  have r := hl.r
  simp only at r
  rcases rt_kind r with e | e | e | e <;> subst e
  · rw [den1_eq, den1_eq, gm_lb]; exact lb_inn hv.z
  · rw [den2_eq, den2_eq, gm_lb]; exact lb_inn hv.z
  · rw [den3_eq, den3_eq, gm_gl]; exact gd_inn hv hu (pF_rt _)
  · rw [den4_eq, den4_eq, gm_gl]; exact gd_inn hv hu (pF_rt _)
end Go.Proofs.YtlhlcefkmhhmjaaGreat
namespace Go.Proofs.YtlhlcefkmhhmjaaGreat
set_option linter.all false
open Go.RowKit Bu Rx

def wxB (n : Nat) : Bool := rightB (FloatKind.f64.nearest (n : Int)) && (obsB (so (wxD (n : Int))) && (decide (z64.k ≤ (wxF (n : Int)).k) && decide ((wxF (n : Int)).k ≤ one64.k)))
set_option maxRecDepth 100000 in
theorem wx_all : (List.range 256).all wxB = true := by decide +kernel
structure WxP (y : Int) : Prop where
  r : rightB (FloatKind.f64.nearest y) = true
  o : ObsOk (so (wxD y))
  lo : 0 ≤ (wxF y).q
  hi : (wxF y).q ≤ 1
theorem wx_ok {y : Int} (h0 : 0 ≤ y) (h1 : y ≤ 255) : WxP y := by
  have a := List.all_eq_true.1 wx_all y.toNat (List.mem_range.2 (by omega))
  unfold wxB at a
  rw [show ((y.toNat : Nat) : Int) = y by omega] at a
  simp only [Bool.and_eq_true, decide_eq_true_iff] at a
  obtain ⟨a1, a2, a3, a4⟩ := a
  have q1 := q_le.2 a3; have q2 := q_le.2 a4
  rw [one_q] at q2; rw [z_q0] at q1
  exact ⟨a1, ObsOk.of_B a2, q1, q2⟩
theorem wd_B {a : I} {y : F} (h : In1 a) (y0 : 0 ≤ y.q) (y1 : y.q ≤ 1) : wdP a y = true := by
  have e1 : f4_.neg.k ≤ mone64.k := by decide +kernel
  have e2 : one64.k ≤ f4_.k := by decide +kernel
  have e3 : f4_.neg.k ≤ z64.k := by decide +kernel
  have k0 : z64.k ≤ y.k := q_le.1 (by rw [z_q0]; exact y0)
  have k1 : y.k ≤ one64.k := q_le.1 (by rw [one_q]; exact y1)
  have a1 := h.lo; have a2 := h.hi; have a3 := h.rt
  unfold wdP
  simp only [Bool.and_eq_true, decide_eq_true_iff]
  omega
structure Wv (v : V3) : Prop where
  x : In1 v.x
  y : In1 v.y
  z : In1 v.z
  z0 : z64.k ≤ v.z.lo.k
theorem one_wv {v : V3} (h : OneP v) : Wv v := ⟨h.x, h.y, h.z, q_le.1 (by rw [z_q0]; have := h.up; grind)⟩
theorem Wv.dir {v : V3} (h : Wv v) : ObsOk (dirO v) :=
  have r : ∀ {x : I}, x.lo.k ≤ x.hi.k → rt x = true := fun k => decide_eq_true k
  ob_c (decide_eq_true h.z.hi) (ob_c (decide_eq_true h.z0) (ob_c (decide_eq_true h.y.hi) (ob_c (decide_eq_true h.y.lo) (ob_c (decide_eq_true h.x.hi) (ob_c (decide_eq_true h.x.lo) (ob_c (r h.z.rt) (ob_c (r h.y.rt) (ob_c (r h.x.rt) ob_n))))))))
theorem u6_get {u : U6} (h : u.ok = true) : wN32 u.a0 = true ∧ wN32 u.a1 = true ∧ wN32 u.a2 = true ∧ wN32 u.a3 = true ∧ wN32 u.a4 = true ∧ wN32 u.a5 = true := by
  unfold U6.ok at h
  simpa only [Bool.and_eq_true] using h
theorem in1_par {a : I} (h : In1 a) : parB a.lo a.hi = true := by
  unfold parB
  simp only [Bool.and_eq_true, decide_eq_true_iff]
  exact ⟨h.lo, h.rt, h.hi⟩
theorem in1_part {a b : I} (h : In1 a) (k : InB b a) : In1 b := ⟨Int.le_trans h.lo k.1, Int.le_trans k.2.1 h.hi, k.2.2⟩
noncomputable def NmR : Nm := ⟨NlR, wdI, wdP, spF bwF, parB, wN32, inB2⟩
set_option maxRecDepth 100000 in
theorem oracle11b : OracleOk Tryz.prog (OL11b NmR) :=
  .cons leG.of <| .cons twK.of <| .cons (normK valK).of <| .cons (normK denK).of <| .cons awake11G.of <| .cons wdG.of <| .cons siG.of <| .cons inG.of <| .nil _
theorem wd_wv {v : V3} {y : F} (h : Wv v) (y0 : 0 ≤ y.q) (y1 : y.q ≤ 1) : Wv (wdV NmR v y) := by
  have z1 : mone64.k ≤ z64.k := by decide +kernel
  have z2 : z64.k ≤ one64.k := by decide +kernel
  have z3 : mone64.k ≤ one64.k := by decide +kernel
  obtain ⟨a1, a2, a3⟩ := wd_in (l := mone64) h.x (Int.le_trans h.x.lo h.x.rt) (Int.le_refl _) z3 y0 y1
  obtain ⟨b1, b2, b3⟩ := wd_in (l := mone64) h.y (Int.le_trans h.y.lo h.y.rt) (Int.le_refl _) z3 y0 y1
  obtain ⟨c1, c2, c3⟩ := wd_in (l := z64) h.z (Int.le_trans h.z0 h.z.rt) z1 z2 y0 y1
  exact ⟨⟨a1, a3, a2⟩, ⟨b1, b3, b2⟩, ⟨Int.le_trans z1 c1, c3, c2⟩, c1⟩
theorem wd_obs {v : V3} {y : F} (h : Wv v) (y0 : 0 ≤ y.q) (y1 : y.q ≤ 1) {o : Obs} (ho : ObsOk o) : ObsOk (wdO NmR v y o) :=
  ob_c (wd_B h.z y0 y1) (ob_c (wd_B h.y y0 y1) (ob_c (wd_B h.x y0 y1) ho))
theorem in_v {v : V3} (u : U6) (h : Wv v) : InV3 (inV NmR v u) v := ⟨spF_in h.x.rt, spF_in h.y.rt, spF_in h.z.rt⟩
theorem in_wv {v : V3} (u : U6) (h : Wv v) : Wv (inV NmR v u) :=
  have k := in_v u h
  ⟨in1_part h.x k.x, in1_part h.y k.y, in1_part h.z k.z, Int.le_trans h.z0 k.z.1⟩
theorem in_obs {v : V3} {u : U6} (h : Wv v) (hu : u.ok = true) {o : Obs} (ho : ObsOk o) : ObsOk (inO NmR v u o) := by
  obtain ⟨u0, u1, u2, u3, u4, u5⟩ := u6_get hu
  exact ob_c (in1_par h.z) (ob_c u4 (ob_c u5 (ob_c (in1_par h.y) (ob_c u2 (ob_c u3 (ob_c (in1_par h.x) (ob_c u0 (ob_c u1 ho))))))))
theorem pwI_ok {M : Nm} (hi : M.ii = inB2) {a b : I × Int} (h : InR b a) {o : Obs} (ho : ObsOk o) : ObsOk (pwI M a b (neB a.2) o) := by
  unfold pwI
  cases c : neB a.2
  · obtain ⟨h1, h2⟩ := h (neB_0 c)
    rw [hi]
    exact ob_c h2 (ob_c (decide_eq_true h1) (ob_c rfl ho))
  · exact ob_c rfl ho
theorem pwO_ok {M : Nm} {u : U8} {v : U6} {y c : Int} {w x : U6} (hi : M.ii = inB2) (i2 : InR (M.N.dg (nrL M u v y c w x).c0) (M.N.dg (wdL M u v y c).c0)) (i1 : InR (M.N.vg (nrL M u v y c w x)) (M.N.vg (wdL M u v y c)))
    (o1 : ObsOk (M.N.dO (nrL M u v y c w x).c0)) (o2 : ObsOk (M.N.dO (wdL M u v y c).c0)) (o3 : ObsOk (M.N.vo (nrL M u v y c w x))) (o4 : ObsOk (M.N.vo (wdL M u v y c)))
    (o5 : ObsOk (inO M (wdV M (M.N.tb v) (wxF y)) x (inO M (wdV M (M.N.ta v) (wxF y)) w (wdO M (M.N.tb v) (wxF y) (wdO M (M.N.ta v) (wxF y) (so (wxD y) ++ [(rightB (FloatKind.f64.nearest y), true), (M.N.tw v, true), (M.N.lo u, true)])))))) :
    ObsOk (pwO M u v y c w x (neB (M.N.vg (wdL M u v y c)).2) (neB (M.N.dg (wdL M u v y c).c0).2)) := by
  unfold pwO
  exact pwI_ok hi i2 (pwI_ok hi i1 (ob_a o1 (ob_a o2 (ob_a o3 (ob_a o4 o5)))))
theorem wl_ok {u : U8} {v : U6} {y c : Int} (hc : (Lit.int .u8 c).wf = true) (hy : WxP y) : LfO (wdL NmR u v y c) := by
  have k := ch_in3 hc
  refine ⟨?_, (wd_wv (one_wv (twP _ _ _)) hy.lo hy.hi).dir, (wd_wv (one_wv (twP _ _ _)) hy.lo hy.hi).dir, k.1, k.2⟩
  show ObsOk (rtOb (leK u) (etaF (leF bwF u)))
  rw [leF_eta]
  exact le_right u
theorem nl_ok {u : U8} {v : U6} {y c : Int} {w x : U6} (hc : (Lit.int .u8 c).wf = true) (hy : WxP y) : LfO (nrL NmR u v y c w x) := by
  have k := ch_in3 hc
  refine ⟨?_, (in_wv w (wd_wv (one_wv (twP _ _ _)) hy.lo hy.hi)).dir, (in_wv x (wd_wv (one_wv (twP _ _ _)) hy.lo hy.hi)).dir, k.1, k.2⟩
  show ObsOk (rtOb (leK u) (etaF (leF bwF u)))
  rw [leF_eta]
  exact le_right u
theorem pw_a {u : U8} {v : U6} {y c : Int} {w x : U6} (hc : (Lit.int .u8 c).wf = true) (Y : WxP y) : Wv (wdV NmR (NmR.N.ta v) (wxF y)) ∧ Wv (wdV NmR (NmR.N.tb v) (wxF y)) :=
  ⟨wd_wv (one_wv (twP _ _ _)) Y.lo Y.hi, wd_wv (one_wv (twP _ _ _)) Y.lo Y.hi⟩
theorem pw_b (v : U6) : Wv (NmR.N.ta v) ∧ Wv (NmR.N.tb v) := ⟨one_wv (twP _ _ _), one_wv (twP _ _ _)⟩
theorem pw_1 {u : U8} {v : U6} {y c : Int} {w x : U6} (hc : (Lit.int .u8 c).wf = true) (Y : WxP y) : InR (vlG GmR KkR (nrL NmR u v y c w x)) (vlG GmR KkR (wdL NmR u v y c)) :=
  val_inn (wl_ok hc Y) rfl rfl rfl (in_v w (pw_a (u := u) (c := c) (w := w) (x := x) hc Y).1) (in_v x (pw_a (u := u) (c := c) (w := w) (x := x) hc Y).2)
theorem pw_2 {u : U8} {v : U6} {y c : Int} {w x : U6} (hc : (Lit.int .u8 c).wf = true) (Y : WxP y) : InR (dnG4 GmR (nrL NmR u v y c w x).c0) (dnG4 GmR (wdL NmR u v y c).c0) :=
  den_inn (wl_ok hc Y).z rfl rfl (in_v w (pw_a (u := u) (c := c) (w := w) (x := x) hc Y).1) (in_v x (pw_a (u := u) (c := c) (w := w) (x := x) hc Y).2)
theorem nm_vg : NmR.N.vg = vlG GmR KkR := rfl
theorem nm_dg : NmR.N.dg = dnG4 GmR := rfl
theorem nm_vo : NmR.N.vo = vlO := rfl
theorem nm_dO : NmR.N.dO = dnO4 := rfl
theorem nm_ii : NmR.ii = inB2 := rfl
theorem pw_o {u : U8} {v : U6} {y c : Int} {w x : U6} (hu : u.ok = true) (hv : v.ok = true) (hc : (Lit.int .u8 c).wf = true) (Y : WxP y) (hw : w.ok = true) (hx : x.ok = true) :
    ObsOk (pwO NmR u v y c w x (neB (NmR.N.vg (wdL NmR u v y c)).2) (neB (NmR.N.dg (wdL NmR u v y c).c0).2)) := by
  have b := pw_a (u := u) (v := v) (c := c) (w := w) (x := x) hc Y
  have a := pw_b v
  have L := wl_ok (u := u) (v := v) hc Y
  have L2 := nl_ok (u := u) (v := v) (w := w) (x := x) hc Y
  refine pwO_ok nm_ii ?_ ?_ ?_ ?_ ?_ ?_ (in_obs b.2 hx (in_obs b.1 hw (wd_obs a.2 Y.lo Y.hi (wd_obs a.1 Y.lo Y.hi (ob_a Y.o (ob_c Y.r (ob_c hv (ob_c hu ob_n))))))))
  · rw [nm_dg]; exact pw_2 hc Y
  · rw [nm_vg]; exact pw_1 hc Y
  · rw [nm_dO]; exact L2.z.den
  · rw [nm_dO]; exact L.z.den
  · rw [nm_vo]; exact L2.val
  · rw [nm_vo]; exact L.val
theorem pairsWithin_rw (u : U8) (v : U6) (y c : Int) (w x : U6) (hu : u.ok = true) (hv : v.ok = true) (hy : (Lit.int .u8 y).wf = true) (hc : (Lit.int .u8 c).wf = true) (hw : w.ok = true) (hx : x.ok = true) (W : World) :
    Calls Tryz.prog 4 #[u8v u, u6v v, .int .u8 y, .int .u8 c, u6v w, u6v x] W fun e w' => e = .returned (.bool true) ∧ Below W.heap.size W w' := by
  have y01 : 0 ≤ y ∧ y ≤ 255 := by simpa [Lit.wf, IntKind.min, IntKind.max, IntKind.signed, IntKind.bits] using hy
  exact calls_of_val goodG oracle11b 80 (pwRun NmR u v y c w x _ _) (pw_o hu hv hc (wx_ok y01.1 y01.2) hw hx) rfl rfl W
theorem pairsWithin_row (x0 x1 x2 x3 x4 x5 x6 x7 y0 y1 y2 y3 y4 y5 b c z0 z1 z2 z3 z4 z5 t0 t1 t2 t3 t4 t5 : Int) (h0 : (Lit.int .u32 x0).wf = true) (h1 : (Lit.int .u32 x1).wf = true) (h2 : (Lit.int .u32 x2).wf = true) (h3 : (Lit.int .u32 x3).wf = true) (h4 : (Lit.int .u32 x4).wf = true) (h5 : (Lit.int .u32 x5).wf = true) (h6 : (Lit.int .u32 x6).wf = true) (h7 : (Lit.int .u32 x7).wf = true) (k0 : (Lit.int .u32 y0).wf = true) (k1 : (Lit.int .u32 y1).wf = true) (k2 : (Lit.int .u32 y2).wf = true) (k3 : (Lit.int .u32 y3).wf = true) (k4 : (Lit.int .u32 y4).wf = true) (k5 : (Lit.int .u32 y5).wf = true) (hb : (Lit.int .u8 b).wf = true) (hc : (Lit.int .u8 c).wf = true)
    (l0 : (Lit.int .u32 z0).wf = true) (l1 : (Lit.int .u32 z1).wf = true) (l2 : (Lit.int .u32 z2).wf = true) (l3 : (Lit.int .u32 z3).wf = true) (l4 : (Lit.int .u32 z4).wf = true) (l5 : (Lit.int .u32 z5).wf = true) (m0 : (Lit.int .u32 t0).wf = true) (m1 : (Lit.int .u32 t1).wf = true) (m2 : (Lit.int .u32 t2).wf = true) (m3 : (Lit.int .u32 t3).wf = true) (m4 : (Lit.int .u32 t4).wf = true) (m5 : (Lit.int .u32 t5).wf = true) (w : World) :
    Calls Tryz.prog 4 #[.agg #[.int .u32 x0, .int .u32 x1, .int .u32 x2, .int .u32 x3, .int .u32 x4, .int .u32 x5, .int .u32 x6, .int .u32 x7], .agg #[.int .u32 y0, .int .u32 y1, .int .u32 y2, .int .u32 y3, .int .u32 y4, .int .u32 y5], .int .u8 b, .int .u8 c, .agg #[.int .u32 z0, .int .u32 z1, .int .u32 z2, .int .u32 z3, .int .u32 z4, .int .u32 z5], .agg #[.int .u32 t0, .int .u32 t1, .int .u32 t2, .int .u32 t3, .int .u32 t4, .int .u32 t5]] w fun e w' => e = .returned (.bool true) ∧ Below w.heap.size w w' :=
  pairsWithin_rw ⟨x0, x1, x2, x3, x4, x5, x6, x7⟩ ⟨y0, y1, y2, y3, y4, y5⟩ b c ⟨z0, z1, z2, z3, z4, z5⟩ ⟨t0, t1, t2, t3, t4, t5⟩ (u8_ok h0 h1 h2 h3 h4 h5 h6 h7) (u6_ok k0 k1 k2 k3 k4 k5) hb hc (u6_ok l0 l1 l2 l3 l4 l5) (u6_ok m0 m1 m2 m3 m4 m5) w
end Go.Proofs.YtlhlcefkmhhmjaaGreat
namespace Go.Proofs.YtlhlcefkmhhmjaaGreat
set_option linter.all false
open Go.ChangeShapes Go.WideShapes Go.ChangeAt Go.RowKit
set_option linter.unusedVariables false

theorem arrT_u32x6 : ArrT Tryz.prog 24 22 6 .u32 := ⟨Tryz.underlying24, Tryz.underlying22, by kernel_rfl, by kernel_rfl⟩
theorem arrT_u32x8 : ArrT Tryz.prog 23 22 8 .u32 := ⟨Tryz.underlying23, Tryz.underlying22, by kernel_rfl, by kernel_rfl⟩
theorem lst_6 {l : List Int} (h : l.length = 6) : ∃ y0 y1 y2 y3 y4 y5, l = [y0, y1, y2, y3, y4, y5] := by match l, h with | [y0, y1, y2, y3, y4, y5], _ => exact ⟨y0, y1, y2, y3, y4, y5, rfl⟩
theorem lst_8 {l : List Int} (h : l.length = 8) : ∃ y0 y1 y2 y3 y4 y5 y6 y7, l = [y0, y1, y2, y3, y4, y5, y6, y7] := by match l, h with | [y0, y1, y2, y3, y4, y5, y6, y7], _ => exact ⟨y0, y1, y2, y3, y4, y5, y6, y7, rfl⟩
set_option maxRecDepth 100000 in
theorem pairsWithin_lifted (os : Os) (started : os.Started) (H : Type) (enc : TypeId × Value → H) :
    ReturnsInHanded {} Tryz.checked os 4 .any (Rows.pairsWithinSpec.pre6 enc Tryz.prog Tryz.f4 Rows.pairsWithinRow.domain false) (Rows.pairsWithinSpec.post enc Tryz.prog Tryz.f4 false true false false) := by
  refine returnsInHanded_of_change (C := Tryz.checked) Tryz.own started (by kernel_rfl) Tryz.func4
    (ChangeSpec.witness6 (enc := enc) (C := Tryz.checked) false ⟨#[], #[.agg #[.int .u32 0, .int .u32 0, .int .u32 0, .int .u32 0, .int .u32 0, .int .u32 0, .int .u32 0, .int .u32 0], .agg #[.int .u32 0, .int .u32 0, .int .u32 0, .int .u32 0, .int .u32 0, .int .u32 0], .int .u8 0, .int .u8 0, .agg #[.int .u32 0, .int .u32 0, .int .u32 0, .int .u32 0, .int .u32 0, .int .u32 0], .agg #[.int .u32 0, .int .u32 0, .int .u32 0, .int .u32 0, .int .u32 0, .int .u32 0]], []⟩ 8 (by kernel_rfl) (by kernel_rfl) (by kernel_rfl) (by kernel_rfl)) ?_
  intro W base args ds gs before hval0 hW hcnd _
  have hval : ∀ (j : Nat) t v, Tryz.f4.params[j]? = some t → args[j]? = some v → Value.okWide Tryz.prog W .any base t v := hval0
  have hW' := hW
  obtain ⟨p, q, hA0, hV, rfl, hfz, hnd⟩ := hW
  have hA : DataW.TrodAll enc Tryz.prog W 0 (fun _ => true) true Tryz.f4.params.toList args.toList ds p := hA0
  rw [Tryz.params4] at hA hval
  obtain ⟨v0, vs0, d0, ds0, p0, q0, hargs, rfl, rfl, h0, r0⟩ := trodAll_cons hA
  obtain ⟨v1, vs1, d1, ds1, p1, q1, rfl, rfl, rfl, h1, r1⟩ := trodAll_cons r0
  obtain ⟨v2, vs2, d2, ds2, p2, q2, rfl, rfl, rfl, h2, r2⟩ := trodAll_cons r1
  obtain ⟨v3, vs3, d3, ds3, p3, q3, rfl, rfl, rfl, h3, r3⟩ := trodAll_cons r2
  obtain ⟨v4, vs4, d4, ds4, p4, q4, rfl, rfl, rfl, h4, r4⟩ := trodAll_cons r3
  obtain ⟨v5, vs5, d5, ds5, p5, q5, rfl, rfl, rfl, h5, r5⟩ := trodAll_cons r4
  obtain ⟨rfl, rfl, rfl⟩ := trodAll_nil r5
  obtain rfl : args = #[v0, v1, v2, v3, v4, v5] := by cases args; simp_all
  obtain ⟨rfl, rfl⟩ := trodVars_none hV
  obtain ⟨ns0, l0, rfl, rfl, rfl, w0⟩ := open_arr arrT_u32x8 (hval 0 23 v0 rfl rfl) h0
  obtain ⟨a0_0, a0_1, a0_2, a0_3, a0_4, a0_5, a0_6, a0_7, rfl⟩ := lst_8 l0
  obtain ⟨ns1, l1, rfl, rfl, rfl, w1⟩ := open_arr arrT_u32x6 (hval 1 24 v1 rfl rfl) h1
  obtain ⟨a1_0, a1_1, a1_2, a1_3, a1_4, a1_5, rfl⟩ := lst_6 l1
  obtain ⟨a2, rfl, rfl, rfl, w2⟩ := open_int Tryz.underlying5 (hval 2 5 v2 rfl rfl) h2
  obtain ⟨a3, rfl, rfl, rfl, w3⟩ := open_int Tryz.underlying5 (hval 3 5 v3 rfl rfl) h3
  obtain ⟨ns4, l4, rfl, rfl, rfl, w4⟩ := open_arr arrT_u32x6 (hval 4 24 v4 rfl rfl) h4
  obtain ⟨a4_0, a4_1, a4_2, a4_3, a4_4, a4_5, rfl⟩ := lst_6 l4
  obtain ⟨ns5, l5, rfl, rfl, rfl, w5⟩ := open_arr arrT_u32x6 (hval 5 24 v5 rfl rfl) h5
  obtain ⟨a5_0, a5_1, a5_2, a5_3, a5_4, a5_5, rfl⟩ := lst_6 l5
  clear hA0 hval0
  simp only [List.append_nil] at hW'
  refine (pairsWithin_row a0_0 a0_1 a0_2 a0_3 a0_4 a0_5 a0_6 a0_7 a1_0 a1_1 a1_2 a1_3 a1_4 a1_5 a2 a3 a4_0 a4_1 a4_2 a4_3 a4_4 a4_5 a5_0 a5_1 a5_2 a5_3 a5_4 a5_5 (w0 a0_0 (by simp)) (w0 a0_1 (by simp)) (w0 a0_2 (by simp)) (w0 a0_3 (by simp)) (w0 a0_4 (by simp)) (w0 a0_5 (by simp)) (w0 a0_6 (by simp)) (w0 a0_7 (by simp)) (w1 a1_0 (by simp)) (w1 a1_1 (by simp)) (w1 a1_2 (by simp)) (w1 a1_3 (by simp)) (w1 a1_4 (by simp)) (w1 a1_5 (by simp)) w2 w3 (w4 a4_0 (by simp)) (w4 a4_1 (by simp)) (w4 a4_2 (by simp)) (w4 a4_3 (by simp)) (w4 a4_4 (by simp)) (w4 a4_5 (by simp)) (w5 a5_0 (by simp)) (w5 a5_1 (by simp)) (w5 a5_2 (by simp)) (w5 a5_3 (by simp)) (w5 a5_4 (by simp)) (w5 a5_5 (by simp)) W).mono fun e W' ⟨he, hg⟩ => ?_
  subst he
  exact ⟨_, rfl, post_scalar hW' (fun _ _ _ => (trodAll_cons_mk (shut_bool Tryz.underlying4 _) trodAll_mk0)) (fun sp => (trodAll_cons_mk (shut_arr arrT_u32x8 (ns := [a0_0, a0_1, a0_2, a0_3, a0_4, a0_5, a0_6, a0_7]) rfl w0) (trodAll_cons_mk (shut_arr arrT_u32x6 (ns := [a1_0, a1_1, a1_2, a1_3, a1_4, a1_5]) rfl w1) (trodAll_cons_mk (shut_int Tryz.underlying5 w2) (trodAll_cons_mk (shut_int Tryz.underlying5 w3) (trodAll_cons_mk (shut_arr arrT_u32x6 (ns := [a4_0, a4_1, a4_2, a4_3, a4_4, a4_5]) rfl w4) (trodAll_cons_mk (shut_arr arrT_u32x6 (ns := [a5_0, a5_1, a5_2, a5_3, a5_4, a5_5]) rfl w5) trodAll_mk0))))))) (fun _ => rfl) hg (ok_one (by kernel_rfl) rfl (okWide_bool_mk Tryz.underlying4 _))⟩

theorem pairsWithin_over : Rows.pairsWithinRow.holds Tryz.pinned (OpenSpec.ofChange Rows.pairsWithinSpec) :=
  OpenClaim.holds_of_wide 4 Tryz.f4 rfl rfl rfl rfl rfl rfl rfl ⟨rfl, rfl, rfl, rfl, rfl⟩ rfl rfl rfl rfl rfl (by kernel_rfl) Tryz.func4 (by kernel_rfl)
    (of_decide_eq_true (by kernel_rfl)) (by unfold Func.isWrapper; first | (rw [if_pos (by decide +kernel)]; kernel_rfl) | (rw [if_neg (by decide +kernel)]; exact ⟨rfl, rfl⟩))
    (fun os started H enc _ => pairsWithin_lifted os started H enc)

theorem pairsWithin_holds : Rows.PairsWithinSaid := pairsWithin_over
#print axioms pairsWithin_holds
end Go.Proofs.YtlhlcefkmhhmjaaGreat
