/- What VndfTells asks: the chapter's examples, widened vectors, intervals by numbers. VndfTells, by the reckoner (written by genlaw13.py). VndfTells: the row. -/
import Derived.Test.YtmhhopfffeijnaaGreatZ33
import Derived.Test.YtmhhopfffeijnaaGreatZ16
namespace Bu
set_option linter.all false
open Rx Go

/-- an interval about another one -/
def wdI (a : I) (y l : F) : I := ⟨mxF (sf (fsu a.lo y)) l, mnF (sf (fad a.hi y)) one64⟩
def f4_ : F := toF 4616189618054758400
/-- no number is beyond 4 -/
def wdP (a : I) (y : F) : Bool := decide (f4_.neg.k ≤ a.lo.k) && decide (a.lo.k ≤ f4_.k) && decide (f4_.neg.k ≤ a.hi.k) && decide (a.hi.k ≤ f4_.k) && decide (f4_.neg.k ≤ y.k) && decide (y.k ≤ f4_.k)
def kWd (f : I → F → F → I) (p : I → F → Bool) : List SV → Dec → Option (SV × Dec × Obs)
  | [.agg [.fl a, .fl b], .fl y, .fl l], ds => some (.agg [.fl (f ⟨a, b⟩ y l).lo, .fl (f ⟨a, b⟩ y l).hi], ds, [(p ⟨a, b⟩ y, true)])
  | _, _ => none
def spF (f : F → F → Int → F) (a b : F) (u v : Int) : I := bif decide ((f a b v).k < (f a b u).k) then ⟨f a b v, f a b u⟩ else ⟨f a b u, f a b v⟩
def kSp (f : F → F → Int → Int → I) (p : F → F → Bool) (w : Int → Bool) : List SV → Dec → Option (SV × Dec × Obs)
  | [.fl a, .fl b, x, y], ds => match intS x, intS y with
    | some (.u32, n), some (.u32, m) => some (.agg [.fl (f a b n m).lo, .fl (f a b n m).hi], ds, [(p a b, true), (w n, true), (w m, true)])
    | _, _ => none
  | _, _ => none
theorem wd_ok {a : I} {y : F} (h : wdP a y = true) : obsB (so (fsu a.lo y)) = true ∧ obsB (so (fad a.hi y)) = true := by
  unfold wdP at h
  simp only [Bool.and_eq_true, decide_eq_true_iff] at h
  obtain ⟨⟨⟨⟨⟨p1, p2⟩, p3⟩, p4⟩, p5⟩, p6⟩ := h
  have c : f4_.q = 4 := q_int (n := 4) (by decide +kernel)
  have q1 := q_le.2 p1; have q2 := q_le.2 p2; have q3 := q_le.2 p3; have q4 := q_le.2 p4; have q5 := q_le.2 p5; have q6 := q_le.2 p6
  rw [q_neg, c] at q1 q3 q5
  rw [c] at q2 q4 q6
  obtain ⟨g, hg⟩ := big_ex
  obtain ⟨D, e, _⟩ := sub_nr (x := a.lo) (y := y) (g := g) (by grind) (by grind)
  obtain ⟨D', e', _⟩ := add_nr (x := a.hi) (y := y) (g := g) (by grind) (by grind)
  exact ⟨(so_ok (show fsu a.lo y = some D.b from e)).1, (so_ok (show fad a.hi y = some D'.b from e')).1⟩
end Bu
namespace Go.Proofs.YtmhhopfffeijnaaGreat
set_option linter.all false
open Go.RowKit Bu Rx

def wdX (a : I) (y l : F) (d1 d2 : Bool) : I := ⟨bif d1 then l else sf (fsu a.lo y), bif d2 then one64 else sf (fad a.hi y)⟩
theorem wdRun (a b y l : F) (d1 d2 : Bool) : valR ((run Tryz.prog EG OIM 80).1 60 [.agg [.fl a, .fl b], .fl y, .fl l] [] (some [d1, d2])) = some (.agg [.fl (sf (fad (wdX ⟨a, b⟩ y l d1 d2).lo (toF 0))), .fl (sf (fad (wdX ⟨a, b⟩ y l d1 d2).hi (toF 0)))], some [], so (fad (wdX ⟨a, b⟩ y l d1 d2).hi (toF 0)) ++ so (fad (wdX ⟨a, b⟩ y l d1 d2).lo (toF 0)) ++ (decide (one64.k < (sf (fad b y)).k), d2) :: (decide ((sf (fsu a y)).k < l.k), d1) :: (so (fad b y) ++ so (fsu a y))) := by cases d1 <;> cases d2 <;> kernel_rfl
theorem wdG : PlainOk Tryz.prog 60 (kWd wdI wdP) := by
  intro args ds x ds' ob h ho
  unfold kWd at h
  split at h
  · rename_i a b y l
    simp only [Option.some.injEq, Prod.mk.injEq] at h; obtain ⟨rfl, _, rfl⟩ := h
    have hp : wdP ⟨a, b⟩ y = true := ho _ (List.mem_cons_self ..)
    obtain ⟨o1, o2⟩ := wd_ok hp
    refine ⟨[.agg #[.float .f64 a.b, .float .f64 b.b], .float .f64 y.b, .float .f64 l.b], _, rfl, rfl, fun w => ?_⟩
    have r := wdRun a b y l (decide ((sf (fsu a y)).k < l.k)) (decide (one64.k < (sf (fad b y)).k))
    have e : wdX ⟨a, b⟩ y l (decide ((sf (fsu a y)).k < l.k)) (decide (one64.k < (sf (fad b y)).k)) = wdI ⟨a, b⟩ y l := by
      unfold wdX wdI
      refine congr (congrArg I.mk (F.ext' ?_)) (F.ext' ?_)
      · show _ = (mxF (sf (fsu a y)) l).k
        rw [mxF_k]
        cases g : decide ((sf (fsu a y)).k < l.k)
        · have := of_decide_eq_false g; show (sf (fsu a y)).k = _; omega
        · have := of_decide_eq_true g; show l.k = _; omega
      · show _ = (mnF (sf (fad b y)) one64).k
        rw [mnF_k]
        cases g : decide (one64.k < (sf (fad b y)).k)
        · have := of_decide_eq_false g; show (sf (fad b y)).k = _; omega
        · have := of_decide_eq_true g; show one64.k = _; omega
    rw [e] at r
    obtain ⟨z1, z2⟩ := so_ok (fad_zero (wdI ⟨a, b⟩ y l).lo)
    obtain ⟨z3, z4⟩ := so_ok (fad_zero (wdI ⟨a, b⟩ y l).hi)
    rw [z2, z4] at r
    exact calls_of_val goodG oracleIM 80 r (ObsOk.of_B (ob2 (ob2 z3 z1) (obsB_yes rfl (obsB_yes rfl (ob2 o2 o1))))) rfl rfl w
  · cases h
def OSp (f : F → F → Int → F) (p : F → F → Bool) (w : Int → Bool) : OracleF := lookO [(61, plainO (kBw f p w))]
theorem oracleSp : OracleOk Tryz.prog (OSp bwF pairB wN32) := .cons bwG.of (.nil _)
theorem spRun (f : F → F → Int → F) (p : F → F → Bool) (w : Int → Bool) (a b : F) (n m : Int) (d : Bool) : valR ((run Tryz.prog EG (OSp f p w) 80).1 17 [.fl a, .fl b, .si .u32 n, .si .u32 m] [] (some [d])) = some (.agg [.fl (bif d then f a b m else f a b n), .fl (bif d then f a b n else f a b m)], some [], [(decide ((f a b m).k < (f a b n).k), d), (p a b, true), (w m, true), (p a b, true), (w n, true)]) := by cases d <;> kernel_rfl
theorem spG : PlainOk Tryz.prog 17 (kSp (spF bwF) pairB wN32) := by
  intro args ds x ds' ob h ho
  unfold kSp at h
  split at h
  · rename_i a b x y
    split at h
    · rename_i n m e1 e2
      simp only [Option.some.injEq, Prod.mk.injEq] at h; obtain ⟨rfl, _, rfl⟩ := h
      have hp : pairB a b = true := ho _ (List.mem_cons_self ..)
      have h1 : wN32 n = true := ho (_, true) (List.mem_cons_of_mem _ (List.mem_cons_self ..))
      have h2 : wN32 m = true := ho (_, true) (List.mem_cons_of_mem _ (List.mem_cons_of_mem _ (List.mem_cons_self ..)))
      refine ⟨[.float .f64 a.b, .float .f64 b.b, .int .u32 n, .int .u32 m], _, plains_cons rfl (plains_cons rfl (plains_cons (intS_plain e1) (plains_cons (intS_plain e2) plains_nil))), rfl, fun w => ?_⟩
      have r := spRun bwF pairB wN32 a b n m (decide ((bwF a b m).k < (bwF a b n).k))
      unfold spF
      cases d : decide ((bwF a b m).k < (bwF a b n).k) <;> rw [d] at r <;> exact calls_of_val goodG oracleSp 80 r (ObsOk.of_B (obsB_yes rfl (obsB_yes hp (obsB_yes h2 (obsB_yes hp (obsB_yes h1 obsB_nil)))))) rfl rfl w
    · cases h
  · cases h
def OA13 (W : Kw) : OracleF := lookO [(18, plainO (kVd W.vd (drO W.N))), (20, plainO (kDn W.dn)), (56, plainO kPt)]
theorem aw13Run (W : Kw) : valR ((run Tryz.prog EG (OA13 W) 80).1 22 [] [] (some [true, true, false, true, true, true, true, true, true, true, true, true, true, true, true, true, true, true])) = some (.b true, some [], aw13 W) := by kernel_rfl
theorem oracleA13 : OracleOk Tryz.prog (OA13 WR) := .cons drG.of (.cons dnG.of (.cons ptG.of (.nil _)))
theorem awake13G : PlainOk Tryz.prog 22 (oConst (.b true)) := constG rfl fun w => calls_of_val goodG oracleA13 80 (aw13Run WR) (ObsOk.of_B aw13_ok) rfl rfl w
end Go.Proofs.YtmhhopfffeijnaaGreat
namespace Bu
set_option linter.all false
open Rx Go

def eqV3 (v : V3) : Bool := (decide (v.x.lo.k = v.x.lo.k) && (decide (v.x.hi.k = v.x.hi.k) && true)) && ((decide (v.y.lo.k = v.y.lo.k) && (decide (v.y.hi.k = v.y.hi.k) && true)) && ((decide (v.z.lo.k = v.z.lo.k) && (decide (v.z.hi.k = v.z.hi.k) && true)) && true))
def eqI1 (a : I) : Bool := decide (a.lo.k = a.lo.k) && (decide (a.hi.k = a.hi.k) && true)
theorem eqV3_ok (v : V3) : eqV3 v = true := by unfold eqV3; simp
theorem eqI1_ok (a : I) : eqI1 a = true := by unfold eqI1; simp
theorem eqN_ok (a : Int) : decide (a = a) = true := decide_eq_true rfl
/-- what is told of both sides -/
def vtE (V : V3 × Int) (D : I × Int) (o : Obs) : Obs := (decide (D.2 = D.2), true) :: (eqI1 D.1, true) :: (decide (V.2 = V.2), true) :: (eqV3 V.1, true) :: o
theorem vtE_ok {V : V3 × Int} {D : I × Int} {o : Obs} (h : ObsOk o) : ObsOk (vtE V D o) := obs_c (eqN_ok _) (obs_c (eqI1_ok _) (obs_c (eqN_ok _) (obs_c (eqV3_ok _) h)))
def c4096 : F := toF 4661225614328463360
/-- how wide, of an 8-bit number -/
def wyD (y : Int) : Option Nat := fdv (toF (FloatKind.f64.nearest (IntKind.u8.wrap (y.tdiv 3)))) c4096
def wyF (y : Int) : F := sf (wyD y)
def wyO (y : Int) (o : Obs) : Obs := so (wyD y) ++ (rightB (FloatKind.f64.nearest (IntKind.u8.wrap (y.tdiv 3))), true) :: o
def wyB (y : Int) : Bool := obsB (so (wyD y)) && (rightB (FloatKind.f64.nearest (IntKind.u8.wrap (y.tdiv 3))) && (decide (f4_.neg.k ≤ (wyF y).k) && decide ((wyF y).k ≤ f4_.k)))
set_option maxRecDepth 100000 in
theorem wyB_all : ∀ k : Fin 256, wyB ((k.val : Nat) : Int) = true := by decide +kernel
theorem wy_ok {y : Int} (h : 0 ≤ y ∧ y < 256) : wyB y = true := by
  obtain ⟨k, rfl⟩ := Int.eq_ofNat_of_zero_le h.1
  exact wyB_all ⟨k, by omega⟩
/-- further names -/
structure Kl13 where
  W : Kw
  wi : I → F → F → I
  wp : I → F → Bool
  sp : F → F → Int → Int → I
def wideV (L : Kl13) (v : V3) (y : F) : V3 := ⟨L.wi v.x y mone64, L.wi v.y y mone64, L.wi v.z y z64⟩
def wideO (L : Kl13) (v : V3) (y : F) (o : Obs) : Obs := (L.wp v.z y, true) :: (L.wp v.y y, true) :: (L.wp v.x y, true) :: o
end Bu
namespace Go.Proofs.YtmhhopfffeijnaaGreat
set_option linter.all false
open Go.RowKit Bu Rx

def DFv (F : Nat → Nat → Nat → Nat → Nat → Nat → Nat → Nat → Int → Int → V3 × Int) (v : V3) (al : I) (n m : Int) : V3 × Int := F v.x.lo.b v.x.hi.b v.y.lo.b v.y.hi.b v.z.lo.b v.z.hi.b al.lo.b al.hi.b n m
def NGv (G : Nat → Nat → Nat → Nat → Nat → Nat → Nat → Nat → Nat → Nat → Nat → Nat → Nat → Nat → I × Int) (v u : V3) (al : I) : I × Int := G v.x.lo.b v.x.hi.b v.y.lo.b v.y.hi.b v.z.lo.b v.z.hi.b u.x.lo.b u.x.hi.b u.y.lo.b u.y.hi.b u.z.lo.b u.z.hi.b al.lo.b al.hi.b
def OVT (L : Kl13) (F : Nat → Nat → Nat → Nat → Nat → Nat → Nat → Nat → Int → Int → V3 × Int) (u : Int → Bool) (G : Nat → Nat → Nat → Nat → Nat → Nat → Nat → Nat → Nat → Nat → Nat → Nat → Nat → Nat → I × Int) : OracleF := lookO [(18, plainO (kDW F u)), (19, plainO (kDW F u)), (20, plainO (kNW G)), (21, plainO (kNW G)), (22, plainO (oConst (.b true))), (58, plainO (kUn L.W.un L.W.ub)), (61, plainO (kBw L.W.bw L.W.pb L.W.wu)), (60, plainO (kWd L.wi L.wp)), (17, plainO (kSp L.sp L.W.pb L.W.wu))]
def LR : Kl13 := ⟨WR, wdI, wdP, spF bwF⟩
theorem oracleVT : OracleOk Tryz.prog (OVT LR DW u64B NW) := .cons vd_K.of (.cons rd_K.of (.cons dn_K.of (.cons rn_K.of (.cons awake13G.of (.cons unG.of (.cons bwG.of (.cons wdG.of (.cons spG.of (.nil _)))))))))
def ar3 (a b c : Int) : SV := .agg [.si .u32 a, .si .u32 b, .si .u32 c]
/-- the words of two draws, two densities -/
def vtB (u : Int → Bool) (x1 x2 x3 x4 x5 x6 y1 y2 y3 y4 y5 y6 g h : Nat) (n m : Int) (o : Obs) : Obs := [bl x1, bl x2, bl x3, bl x4, bl x5, bl x6, bl y1, bl y2, bl y3, bl y4, bl y5, bl y6, bl g, bl h] ++ ([bl x1, bl x2, bl x3, bl x4, bl x5, bl x6, bl y1, bl y2, bl y3, bl y4, bl y5, bl y6, bl g, bl h] ++ ((u n, true) :: (u m, true) :: ([bl x1, bl x2, bl x3, bl x4, bl x5, bl x6, bl g, bl h] ++ ((u n, true) :: (u m, true) :: ([bl x1, bl x2, bl x3, bl x4, bl x5, bl x6, bl g, bl h] ++ o)))))
theorem bl_all {l : List Nat} (h : ∀ a ∈ l, a < 18446744073709551616) : ObsOk (l.map bl) := fun q hq => by obtain ⟨a, ha, rfl⟩ := List.mem_map.1 hq; exact bl_ok (h a ha)
theorem vtB_ok {x1 x2 x3 x4 x5 x6 y1 y2 y3 y4 y5 y6 g h : Nat} {n m : Int} {o : Obs} (hx1 : x1 < 18446744073709551616) (hx2 : x2 < 18446744073709551616) (hx3 : x3 < 18446744073709551616) (hx4 : x4 < 18446744073709551616) (hx5 : x5 < 18446744073709551616) (hx6 : x6 < 18446744073709551616) (hy1 : y1 < 18446744073709551616) (hy2 : y2 < 18446744073709551616) (hy3 : y3 < 18446744073709551616) (hy4 : y4 < 18446744073709551616) (hy5 : y5 < 18446744073709551616) (hy6 : y6 < 18446744073709551616) (hg : g < 18446744073709551616) (hh : h < 18446744073709551616) (hn : u64B n = true) (hm : u64B m = true) (ho : ObsOk o) : ObsOk (vtB u64B x1 x2 x3 x4 x5 x6 y1 y2 y3 y4 y5 y6 g h n m o) := by
  have a1 : ObsOk [bl x1, bl x2, bl x3, bl x4, bl x5, bl x6, bl y1, bl y2, bl y3, bl y4, bl y5, bl y6, bl g, bl h] := bl_all (l := [x1, x2, x3, x4, x5, x6, y1, y2, y3, y4, y5, y6, g, h]) (by simp only [List.mem_cons, List.not_mem_nil, or_false]; rintro a (rfl | rfl | rfl | rfl | rfl | rfl | rfl | rfl | rfl | rfl | rfl | rfl | rfl | rfl) <;> assumption)
  have a2 : ObsOk [bl x1, bl x2, bl x3, bl x4, bl x5, bl x6, bl g, bl h] := bl_all (l := [x1, x2, x3, x4, x5, x6, g, h]) (by simp only [List.mem_cons, List.not_mem_nil, or_false]; rintro a (rfl | rfl | rfl | rfl | rfl | rfl | rfl | rfl) <;> assumption)
  exact obs_app a1 (obs_app a1 (obs_c hn (obs_c hm (obs_app a2 (obs_c hn (obs_c hm (obs_app a2 ho)))))))
theorem vtRun0 (L : Kl13) (F : Nat → Nat → Nat → Nat → Nat → Nat → Nat → Nat → Int → Int → V3 × Int) (u : Int → Bool) (G : Nat → Nat → Nat → Nat → Nat → Nat → Nat → Nat → Nat → Nat → Nat → Nat → Nat → Nat → I × Int) (x1 x2 x3 x4 x5 x6 y1 y2 y3 y4 y5 y6 g h : Nat) (a b c a' b' c' y n m : Int) : valR ((run Tryz.prog EH (OVT L F u G) 80).1 5 [w6 x1 x2 x3 x4 x5 x6, w6 y1 y2 y3 y4 y5 y6, w2 g h, ar3 a b c, ar3 a' b' c', .si .u8 y, .si .u64 n, .si .u64 m] [] (some [false, true, true, true, true])) = some (.b true, some [], vtE (F x1 x2 x3 x4 x5 x6 g h n m) (G x1 x2 x3 x4 x5 x6 y1 y2 y3 y4 y5 y6 g h) (vtB u x1 x2 x3 x4 x5 x6 y1 y2 y3 y4 y5 y6 g h n m [(decide (0 < y.tmod 3), false)])) := by kernel_rfl
def vtW (L : Kl13) (a b c a' b' c' y : Int) : Obs := (L.W.pb minA one64, true) :: (L.W.wu a, true) :: (L.W.wu a', true) :: wideO L (oneV L.W a' b' c') (wyF y) (wideO L (oneV L.W a b c) (wyF y) (wyO y (oneO L.W a' b' c' ++ (oneO L.W a b c ++ [(decide (0 < y.tmod 3), true)]))))
def vtB3 (u : Int → Bool) (v w : V3) (al : I) (n m : Int) (o : Obs) : Obs := vtB u v.x.lo.b v.x.hi.b v.y.lo.b v.y.hi.b v.z.lo.b v.z.hi.b w.x.lo.b w.x.hi.b w.y.lo.b w.y.hi.b w.z.lo.b w.z.hi.b al.lo.b al.hi.b n m o
theorem vtRun1 (L : Kl13) (F : Nat → Nat → Nat → Nat → Nat → Nat → Nat → Nat → Int → Int → V3 × Int) (u : Int → Bool) (G : Nat → Nat → Nat → Nat → Nat → Nat → Nat → Nat → Nat → Nat → Nat → Nat → Nat → Nat → I × Int) (x1 x2 x3 x4 x5 x6 y1 y2 y3 y4 y5 y6 g h : Nat) (a b c a' b' c' y n m : Int) : valR ((run Tryz.prog EH (OVT L F u G) 80).1 5 [w6 x1 x2 x3 x4 x5 x6, w6 y1 y2 y3 y4 y5 y6, w2 g h, ar3 a b c, ar3 a' b' c', .si .u8 y, .si .u64 n, .si .u64 m] [] (some [true, true, true, true, true, true, true, true, true])) = some (.b true, some [], vtE (DFv F (wideV L (oneV L.W a b c) (wyF y)) (L.sp minA one64 a a') n m) (NGv G (wideV L (oneV L.W a b c) (wyF y)) (wideV L (oneV L.W a' b' c') (wyF y)) (L.sp minA one64 a a')) (vtB3 u (wideV L (oneV L.W a b c) (wyF y)) (wideV L (oneV L.W a' b' c') (wyF y)) (L.sp minA one64 a a') n m (vtW L a b c a' b' c' y))) := by kernel_rfl
end Go.Proofs.YtmhhopfffeijnaaGreat
namespace Bu
set_option linter.all false
open Rx Go

theorem e64_q : d64.q = 1 / 64 := by have : d64.q * 64 = 1 := q_of' (n := 1) (s := 6) (by decide +kernel) rfl; grind
theorem bwN1 {n : Int} : N1 (bwF mone64 one64 n) := by
  have h := bwF_in (a := mone64) (b := one64) (n := n) (q_le.1 (by rw [mone_q, one_q]; grind))
  have a := q_le.2 h.1; have b := q_le.2 h.2
  rw [mone_q] at a; rw [one_q] at b
  exact ⟨a, b⟩
theorem bwN2 {n : Int} : 1 / 64 ≤ (bwF d64 one64 n).q ∧ (bwF d64 one64 n).q ≤ 1 := by
  have h := bwF_in (a := d64) (b := one64) (n := n) (q_le.1 (by rw [e64_q, one_q]; grind))
  have a := q_le.2 h.1; have b := q_le.2 h.2
  rw [e64_q] at a; rw [one_q] at b
  exact ⟨a, b⟩
theorem oneVP (a b c : Int) : OneP (oneV WR a b c) := un_ok bwN1 bwN1 bwN2.1 bwN2.2
theorem oneVO {a b c : Int} (ha : wN32 a = true) (hb : wN32 b = true) (hc : wN32 c = true) : obsB (oneO WR a b c) = true := by
  have h := (oneVP a b c).up
  obtain ⟨p1, p2, p3⟩ := aw13_p
  have z : z64.q = 0 := zero0_q
  exact obsB_yes (decide_eq_true (q_lt.1 (by rw [z]; grind))) (obsB_yes (un_B bwN1 bwN1 bwN2.1 bwN2.2) (obsB_yes p2 (obsB_yes hc (obsB_yes p1 (obsB_yes hb (obsB_yes p1 (obsB_yes ha obsB_nil)))))))
theorem f4_ends : f4_.neg.k ≤ mone64.k ∧ one64.k ≤ f4_.k := by decide +kernel
theorem wdP_in {a : I} {y : F} (h : In1 a) (h1 : f4_.neg.k ≤ y.k) (h2 : y.k ≤ f4_.k) : wdP a y = true := by
  obtain ⟨e1, e2⟩ := f4_ends
  have l := h.lo; have u := h.hi; have r := h.rt
  unfold wdP
  simp only [Bool.and_eq_true, decide_eq_true_iff]
  exact ⟨⟨⟨⟨⟨by omega, by omega⟩, by omega⟩, by omega⟩, h1⟩, h2⟩
end Bu
namespace Go.Proofs.YtmhhopfffeijnaaGreat
set_option linter.all false
open Go.RowKit Bu Rx

theorem vtW_ok {a b c a' b' c' y : Int} (ha : wN32 a = true) (hb : wN32 b = true) (hc : wN32 c = true) (ha' : wN32 a' = true) (hb' : wN32 b' = true) (hc' : wN32 c' = true) (hy : 0 ≤ y ∧ y < 256) (hd : 0 < y.tmod 3) : ObsOk (vtW LR a b c a' b' c' y) := by
  have w := wy_ok hy
  unfold wyB at w
  obtain ⟨w1, w⟩ := and_2 w
  obtain ⟨w2, w⟩ := and_2 w
  obtain ⟨w3, w4⟩ := and_2 w
  have w3 := of_decide_eq_true w3; have w4 := of_decide_eq_true w4
  have wide : ∀ {v : V3} {o : Obs}, OneP v → ObsOk o → ObsOk (wideO LR v (wyF y) o) := fun hv ho => obs_c (wdP_in hv.z w3 w4) (obs_c (wdP_in hv.y w3 w4) (obs_c (wdP_in hv.x w3 w4) ho))
  refine obs_c aw13_p.2.2 (obs_c ha (obs_c ha' (wide (oneVP _ _ _) (wide (oneVP _ _ _) (obs_app (ObsOk.of_B w1) (obs_c w2 (obs_app (ObsOk.of_B (oneVO ha' hb' hc')) (obs_app (ObsOk.of_B (oneVO ha hb hc)) (obs_c (decide_eq_true hd) ob_nil)))))))))
theorem u8_in {y : Int} (h : (Lit.int .u8 y).wf = true) : 0 ≤ y ∧ y < 256 := by
  have : 0 ≤ y ∧ y ≤ 255 := by simpa [Lit.wf, IntKind.min, IntKind.max, IntKind.signed, IntKind.bits] using h
  omega
theorem u32_B {n : Int} (h : (Lit.int .u32 n).wf = true) : wN32 n = true := by
  have : 0 ≤ n ∧ n ≤ 4294967295 := by simpa [Lit.wf, IntKind.min, IntKind.max, IntKind.signed, IntKind.bits] using h
  exact decide_eq_true this
theorem F_lt (x : F) : x.b < 18446744073709551616 := F.b_lt x
theorem vndfTells_row (x1 x2 x3 x4 x5 x6 y1 y2 y3 y4 y5 y6 g h : Nat) (a b c a' b' c' y n m : Int) (hx1 : x1 < 18446744073709551616) (hx2 : x2 < 18446744073709551616) (hx3 : x3 < 18446744073709551616) (hx4 : x4 < 18446744073709551616) (hx5 : x5 < 18446744073709551616) (hx6 : x6 < 18446744073709551616) (hy1 : y1 < 18446744073709551616) (hy2 : y2 < 18446744073709551616) (hy3 : y3 < 18446744073709551616) (hy4 : y4 < 18446744073709551616) (hy5 : y5 < 18446744073709551616) (hy6 : y6 < 18446744073709551616) (hg : g < 18446744073709551616) (hh : h < 18446744073709551616)
    (ha : (Lit.int .u32 a).wf = true) (hb : (Lit.int .u32 b).wf = true) (hc : (Lit.int .u32 c).wf = true) (ha' : (Lit.int .u32 a').wf = true) (hb' : (Lit.int .u32 b').wf = true) (hc' : (Lit.int .u32 c').wf = true) (hy : (Lit.int .u8 y).wf = true) (hn : (Lit.int .u64 n).wf = true) (hm : (Lit.int .u64 m).wf = true) (w : World) :
    Calls Tryz.prog 5 #[.agg #[.float .f64 x1, .float .f64 x2, .float .f64 x3, .float .f64 x4, .float .f64 x5, .float .f64 x6], .agg #[.float .f64 y1, .float .f64 y2, .float .f64 y3, .float .f64 y4, .float .f64 y5, .float .f64 y6], .agg #[.float .f64 g, .float .f64 h], .agg #[.int .u32 a, .int .u32 b, .int .u32 c], .agg #[.int .u32 a', .int .u32 b', .int .u32 c'], .int .u8 y, .int .u64 n, .int .u64 m] w fun e w' => e = .returned (.bool true) ∧ Below w.heap.size w w' := by
  have hn' : u64B n = true := decide_eq_true (u64_in hn)
  have hm' : u64B m = true := decide_eq_true (u64_in hm)
  by_cases hd : 0 < y.tmod 3
  · have r := vtRun1 LR DW u64B NW x1 x2 x3 x4 x5 x6 y1 y2 y3 y4 y5 y6 g h a b c a' b' c' y n m
    generalize hv : wideV LR (oneV LR.W a b c) (wyF y) = V at r
    generalize hu : wideV LR (oneV LR.W a' b' c') (wyF y) = U at r
    generalize hs : LR.sp minA one64 a a' = A at r
    exact calls_of_val goodH oracleVT 80 r (vtE_ok (vtB_ok (F_lt _) (F_lt _) (F_lt _) (F_lt _) (F_lt _) (F_lt _) (F_lt _) (F_lt _) (F_lt _) (F_lt _) (F_lt _) (F_lt _) (F_lt _) (F_lt _) hn' hm' (vtW_ok (u32_B ha) (u32_B hb) (u32_B hc) (u32_B ha') (u32_B hb') (u32_B hc') (u8_in hy) hd))) rfl rfl w
  · exact calls_of_val goodH oracleVT 80 (vtRun0 LR DW u64B NW x1 x2 x3 x4 x5 x6 y1 y2 y3 y4 y5 y6 g h a b c a' b' c' y n m) (vtE_ok (vtB_ok hx1 hx2 hx3 hx4 hx5 hx6 hy1 hy2 hy3 hy4 hy5 hy6 hg hh hn' hm' (obs_c (decide_eq_false hd) ob_nil))) rfl rfl w
end Go.Proofs.YtmhhopfffeijnaaGreat
