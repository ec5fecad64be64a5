/- micro, fresnel, lambert by the reckoner. micro.Look and what it calls as known functions. micro.Look as a known function. pairs.Value, by the reckoner and the table. pairs: runs of Right, look and the four methods. pairs: look, the four methods, densities: runs. pairs: look and the methods as known functions of a leaf. -/
import Derived.Test.YtlhlcefkmhhmjaaGreatZ20
import Derived.Test.YtlhlcefkmhhmjaaGreatZ21
import Derived.Test.YtlhlcefkmhhmjaaGreatZ08
namespace Bu
set_option linter.all false
open Rx Go

/-- value, or error: of a line's place -/
def lnR (E : List I × Int) (i : Nat) : I × Int := bif neB E.2 then (I.zero, E.2) else (gt E.1 i, 0)
def miK (K : Kk) (v u : V3) : List I × Int := evalK K miH [u.z, u.y, u.x, v.z, v.y, v.x] 0
def g2K (K : Kk) (c d al : I) : List I × Int := evalK K gg2 [d, c, al] 0
def fdK (K : Kk) (c n : I) : List I × Int := evalK K frD [c, n] 0
def fcK (K : Kk) (c a b : I) : List I × Int := evalK K frC [c, a, b] 0
def lbK (K : Kk) (r : I) : List I × Int := evalK K lbV [r] 0
def u01O (c : I) : Obs := [(decide (c.hi.k ≤ one64.k), true), (decide (z64.k ≤ c.lo.k), true), (rt c, true)]
def bndO (c : I) (l h : F) : Obs := [(decide (c.hi.k ≤ h.k), true), (decide (l.k ≤ c.lo.k), true), (rt c, true)]
def kHf (f : V3 → V3 → List I × Int) : List SV → Dec → Option (SV × Dec × Obs)
  | [.agg [.fl a, .fl b, .fl c, .fl d, .fl e, .fl f'], .agg [.fl g, .fl h, .fl i, .fl j, .fl k, .fl l]], ds =>
    some (.tup [.agg [.fl (lnR (f ⟨⟨a, b⟩, ⟨c, d⟩, ⟨e, f'⟩⟩ ⟨⟨g, h⟩, ⟨i, j⟩, ⟨k, l⟩⟩) 0).1.lo, .fl (lnR (f ⟨⟨a, b⟩, ⟨c, d⟩, ⟨e, f'⟩⟩ ⟨⟨g, h⟩, ⟨i, j⟩, ⟨k, l⟩⟩) 0).1.hi], .agg [.fl (lnR (f ⟨⟨a, b⟩, ⟨c, d⟩, ⟨e, f'⟩⟩ ⟨⟨g, h⟩, ⟨i, j⟩, ⟨k, l⟩⟩) 3).1.lo, .fl (lnR (f ⟨⟨a, b⟩, ⟨c, d⟩, ⟨e, f'⟩⟩ ⟨⟨g, h⟩, ⟨i, j⟩, ⟨k, l⟩⟩) 3).1.hi], .si .i64 (f ⟨⟨a, b⟩, ⟨c, d⟩, ⟨e, f'⟩⟩ ⟨⟨g, h⟩, ⟨i, j⟩, ⟨k, l⟩⟩).2], ds, dirO ⟨⟨a, b⟩, ⟨c, d⟩, ⟨e, f'⟩⟩ ++ dirO ⟨⟨g, h⟩, ⟨i, j⟩, ⟨k, l⟩⟩)
  | _, _ => none
/-- of three intervals, of two, of one -/
def kI3 (f : I → I → I → I × Int) (o : I → I → I → Obs) : List SV → Dec → Option (SV × Dec × Obs)
  | [.agg [.fl a, .fl b], .agg [.fl c, .fl d], .agg [.fl e, .fl g]], ds => some (.tup [.agg [.fl (f ⟨a, b⟩ ⟨c, d⟩ ⟨e, g⟩).1.lo, .fl (f ⟨a, b⟩ ⟨c, d⟩ ⟨e, g⟩).1.hi], .si .i64 (f ⟨a, b⟩ ⟨c, d⟩ ⟨e, g⟩).2], ds, o ⟨a, b⟩ ⟨c, d⟩ ⟨e, g⟩)
  | _, _ => none
def kI2 (f : I → I → I × Int) (o : I → I → Obs) : List SV → Dec → Option (SV × Dec × Obs)
  | [.agg [.fl a, .fl b], .agg [.fl c, .fl d]], ds => some (.tup [.agg [.fl (f ⟨a, b⟩ ⟨c, d⟩).1.lo, .fl (f ⟨a, b⟩ ⟨c, d⟩).1.hi], .si .i64 (f ⟨a, b⟩ ⟨c, d⟩).2], ds, o ⟨a, b⟩ ⟨c, d⟩)
  | _, _ => none
def kI1 (f : I → I × Int) (o : I → Obs) : List SV → Dec → Option (SV × Dec × Obs)
  | [.agg [.fl a, .fl b]], ds => some (.tup [.agg [.fl (f ⟨a, b⟩).1.lo, .fl (f ⟨a, b⟩).1.hi], .si .i64 (f ⟨a, b⟩).2], ds, o ⟨a, b⟩)
  | _, _ => none
end Bu
namespace Go.Proofs.YtlhlcefkmhhmjaaGreat
set_option linter.all false
open Go.RowKit Bu Rx

def OLk (K : Kk) : OracleF := lookO (OCL K ++ [(64, kMlook)])
theorem oracleLk : OracleOk Tryz.prog (OLk KkR) :=
  .cons addC <| .cons subC <| .cons mulC <| .cons divC <| .cons cmax_I <| .cons sqrC <| .cons csqrt_I <|
  .cons numC <| .cons irtK.of <| .cons rightG.of <| .cons absG.of <| .cons vwG.of <| .cons piG.of <| .cons mlook_ok <| .nil _
theorem hfRun0 (K : Kk) (v u : V3) : valR ((run Tryz.prog EG (OLk K) 80).1 65 [v.sv, u.sv] [] (some [false])) = some (.tup [ivS (gt (miK K v u).1 0), ivS (gt (miK K v u).1 3), .i .i64 0], some [], (neB (miK K v u).2, false) :: (dirO v ++ dirO u)) := by kernel_rfl
theorem hfRun1 (K : Kk) (v u : V3) : valR ((run Tryz.prog EG (OLk K) 80).1 65 [v.sv, u.sv] [] (some [true])) = some (.tup [ivS I.zero, ivS I.zero, .si .i64 (miK K v u).2], some [], (neB (miK K v u).2, true) :: (dirO v ++ dirO u)) := by kernel_rfl
def g2O (c d al : I) : Obs := u01d d ++ ggO c al where u01d (d : I) : Obs := [(decide (d.hi.k ≤ one64.k), true), (decide (z64.k ≤ d.lo.k), true), (rt d, true)]
theorem g2Run (K : Kk) (c d al : I) (b : Bool) : valR ((run Tryz.prog EG (lookO (OCL K)) 80).1 67 [ivS c, ivS d, ivS al] [] (some [true, true, true, true, true, true, true, true, true, b])) = some (.tup (bif b then [ivS I.zero, .si .i64 (g2K K c d al).2] else [ivS (gt (g2K K c d al).1 0), .i .i64 0]), some [], (neB (g2K K c d al).2, b) :: g2O c d al) := by cases b <;> kernel_rfl
theorem fdRun (K : Kk) (c n : I) (b : Bool) : valR ((run Tryz.prog EG (lookO (OCL K)) 80).1 61 [ivS c, ivS n] [] (some [true, true, false, false, false, false, b])) = some (.tup (bif b then [ivS I.zero, .si .i64 (fdK K c n).2] else [ivS (gt (fdK K c n).1 0), .i .i64 0]), some [], [(neB (fdK K c n).2, b), (decide (four64.k < n.hi.k), false), (decide (n.lo.k < minIo.k), false), (decide (one64.k < c.hi.k), false), (decide (c.lo.k < z64.k), false), (rt n, true), (rt c, true)]) := by cases b <;> kernel_rfl
theorem fcRun (K : Kk) (c m n : I) (b : Bool) : valR ((run Tryz.prog EG (lookO (OCL K)) 80).1 63 [ivS c, ivS m, ivS n] [] (some [true, true, true, false, false, false, false, false, false, b])) = some (.tup (bif b then [ivS I.zero, .si .i64 (fcK K c m n).2] else [ivS (gt (fcK K c m n).1 0), .i .i64 0]), some [], [(neB (fcK K c m n).2, b), (decide (maxMt.k < n.hi.k), false), (decide (n.lo.k < minMt.k), false), (decide (maxMt.k < m.hi.k), false), (decide (m.lo.k < minMt.k), false), (decide (one64.k < c.hi.k), false), (decide (c.lo.k < z64.k), false), (rt n, true), (rt m, true), (rt c, true)]) := by cases b <;> kernel_rfl
theorem lbRun (K : Kk) (r : I) (b : Bool) : valR ((run Tryz.prog EG (lookO (OCL K)) 80).1 56 [ivS r] [] (some [true, false, false, b])) = some (.tup (bif b then [ivS I.zero, .si .i64 (lbK K r).2] else [ivS (gt (lbK K r).1 0), .i .i64 0]), some [], [(neB (lbK K r).2, b), (decide (one64.k < r.hi.k), false), (decide (r.lo.k < z64.k), false), (rt r, true)]) := by cases b <;> kernel_rfl
end Go.Proofs.YtlhlcefkmhhmjaaGreat
namespace Bu
set_option linter.all false
open Rx Go

theorem ob_c {c b : Bool} {ob : Obs} (h : c = b) (k : ObsOk ob) : ObsOk ((c, b) :: ob) := fun q hq => by
  rcases List.mem_cons.1 hq with rfl | hq
  · exact h
  · exact k q hq
theorem ob_n : ObsOk [] := fun _ h => by cases h
theorem ob_a {a b : Obs} (h : ObsOk a) (k : ObsOk b) : ObsOk (a ++ b) := fun q hq => by
  rcases List.mem_append.1 hq with hq | hq
  · exact h q hq
  · exact k q hq
theorem ob_l {a b : Obs} (h : ObsOk (a ++ b)) : ObsOk a := fun q hq => h q (List.mem_append_left _ hq)
theorem ob_r {a b : Obs} (h : ObsOk (a ++ b)) : ObsOk b := fun q hq => h q (List.mem_append_right _ hq)
theorem ob_h {c b : Bool} {ob : Obs} (h : ObsOk ((c, b) :: ob)) : c = b := h (c, b) (List.mem_cons_self ..)
theorem ob_t {c b : Bool} {ob : Obs} (h : ObsOk ((c, b) :: ob)) : ObsOk ob := fun q hq => h q (List.mem_cons_of_mem _ hq)
theorem not_lt {a b : Int} (h : decide (a ≤ b) = true) : decide (b < a) = false := decide_eq_false (by have := of_decide_eq_true h; omega)
def fdO (c n : I) : Obs := bndO n minIo four64 ++ u01O c
def fcO (c m n : I) : Obs := bndO n minMt maxMt ++ (bndO m minMt maxMt ++ u01O c)
/-- micro.Look -/
structure GlK where
  H : V3 → V3 → List I × Int
  d : I → I → I × Int
  b : I → I → I → I × Int
  o : I → I → I × Int
def glH (G : GlK) (v u : V3) : I × I := ((lnR (G.H v u) 0).1, (lnR (G.H v u) 3).1)
def glE (K : Kk) (G : GlK) (v u : V3) (al : I) : List I × Int := evalK K miV [(G.o u.z al).1, (G.b v.z u.z al).1, (G.d (glH G v u).1 al).1, u.z, v.z] 0
def glErr (K : Kk) (G : GlK) (v u : V3) (al : I) : Int := bif neB (G.H v u).2 then (G.H v u).2 else bif neB (G.d (glH G v u).1 al).2 then (G.d (glH G v u).1 al).2 else bif neB (G.b v.z u.z al).2 then (G.b v.z u.z al).2 else bif neB (G.o u.z al).2 then (G.o u.z al).2 else (glE K G v u al).2
structure Gl4 where
  ln : I
  hf : I
  v : I
  d : I
def Gl4.sv (g : Gl4) : SV := .agg [.fl g.ln.lo, .fl g.ln.hi, .fl g.hf.lo, .fl g.hf.hi, .fl g.v.lo, .fl g.v.hi, .fl g.d.lo, .fl g.d.hi]
def Gl4.zero : Gl4 := ⟨I.zero, I.zero, I.zero, I.zero⟩
def glV (K : Kk) (G : GlK) (v u : V3) (al : I) : Gl4 := ⟨(glH G v u).1, (glH G v u).2, gt (glE K G v u al).1 3, gt (glE K G v u al).1 0⟩
def glR (K : Kk) (G : GlK) (v u : V3) (al : I) : Gl4 × Int := bif neB (glErr K G v u al) then (Gl4.zero, glErr K G v u al) else (glV K G v u al, 0)
def glO (v u : V3) (al : I) : Obs := alO al ++ (dirO v ++ dirO u)
def kGl (f : V3 → V3 → I → Gl4 × Int) : List SV → Dec → Option (SV × Dec × Obs)
  | [.agg [.fl a, .fl b, .fl c, .fl d, .fl e, .fl f'], .agg [.fl g, .fl h, .fl i, .fl j, .fl k, .fl l], .agg [.fl p, .fl q]], ds =>
    some (.tup [(f ⟨⟨a, b⟩, ⟨c, d⟩, ⟨e, f'⟩⟩ ⟨⟨g, h⟩, ⟨i, j⟩, ⟨k, l⟩⟩ ⟨p, q⟩).1.sv, .si .i64 (f ⟨⟨a, b⟩, ⟨c, d⟩, ⟨e, f'⟩⟩ ⟨⟨g, h⟩, ⟨i, j⟩, ⟨k, l⟩⟩ ⟨p, q⟩).2], ds, glO ⟨⟨a, b⟩, ⟨c, d⟩, ⟨e, f'⟩⟩ ⟨⟨g, h⟩, ⟨i, j⟩, ⟨k, l⟩⟩ ⟨p, q⟩)
  | _, _ => none
end Bu
namespace Go.Proofs.YtlhlcefkmhhmjaaGreat
set_option linter.all false
open Go.RowKit Bu Rx

theorem I1_of {g : FuncId} {O : OracleF} (hO : OracleOk Tryz.prog O) {n : Nat} {E : I → List I × Int} {i : Nat} {o o' : I → Obs} {l : Bool → List Bool} (run : ∀ c b, valR ((run Tryz.prog EG O n).1 g [ivS c] [] (some (l b))) = some (.tup (bif b then [ivS I.zero, .si .i64 (E c).2] else [ivS (gt (E c).1 i), .i .i64 0]), some [], (neB (E c).2, b) :: o' c))
    (ho : ∀ c, ObsOk (o c) → ObsOk (o' c)) : PlainOk Tryz.prog g (kI1 (fun c => lnR (E c) i) o) := by
  intro args ds x ds' ob h hob
  unfold kI1 at h
  split at h
  · rename_i a b
    simp only [Option.some.injEq, Prod.mk.injEq] at h
    obtain ⟨rfl, _, rfl⟩ := h
    refine ⟨[.agg #[.float .f64 a.b, .float .f64 b.b]], _, rfl, rfl, fun w => ?_⟩
    have r := run ⟨a, b⟩ (neB (E ⟨a, b⟩).2)
    unfold lnR
    cases k : neB (E ⟨a, b⟩).2 <;> rw [k] at r <;> exact calls_of_val goodG hO n r (ob_c rfl (ho _ hob)) rfl rfl w
  · cases h
theorem I2_of {g : FuncId} {O : OracleF} (hO : OracleOk Tryz.prog O) {n : Nat} {E : I → I → List I × Int} {i : Nat} {o o' : I → I → Obs} {l : Bool → List Bool} (run : ∀ c d b, valR ((run Tryz.prog EG O n).1 g [ivS c, ivS d] [] (some (l b))) = some (.tup (bif b then [ivS I.zero, .si .i64 (E c d).2] else [ivS (gt (E c d).1 i), .i .i64 0]), some [], (neB (E c d).2, b) :: o' c d))
    (ho : ∀ c d, ObsOk (o c d) → ObsOk (o' c d)) : PlainOk Tryz.prog g (kI2 (fun c d => lnR (E c d) i) o) := by
  intro args ds x ds' ob h hob
  unfold kI2 at h
  split at h
  · rename_i a b c d
    simp only [Option.some.injEq, Prod.mk.injEq] at h
    obtain ⟨rfl, _, rfl⟩ := h
    refine ⟨[.agg #[.float .f64 a.b, .float .f64 b.b], .agg #[.float .f64 c.b, .float .f64 d.b]], _, rfl, rfl, fun w => ?_⟩
    have r := run ⟨a, b⟩ ⟨c, d⟩ (neB (E ⟨a, b⟩ ⟨c, d⟩).2)
    unfold lnR
    cases k : neB (E ⟨a, b⟩ ⟨c, d⟩).2 <;> rw [k] at r <;> exact calls_of_val goodG hO n r (ob_c rfl (ho _ _ hob)) rfl rfl w
  · cases h
theorem I3_of {g : FuncId} {O : OracleF} (hO : OracleOk Tryz.prog O) {n : Nat} {E : I → I → I → List I × Int} {i : Nat} {o o' : I → I → I → Obs} {l : Bool → List Bool} (run : ∀ c d e b, valR ((run Tryz.prog EG O n).1 g [ivS c, ivS d, ivS e] [] (some (l b))) = some (.tup (bif b then [ivS I.zero, .si .i64 (E c d e).2] else [ivS (gt (E c d e).1 i), .i .i64 0]), some [], (neB (E c d e).2, b) :: o' c d e))
    (ho : ∀ c d e, ObsOk (o c d e) → ObsOk (o' c d e)) : PlainOk Tryz.prog g (kI3 (fun c d e => lnR (E c d e) i) o) := by
  intro args ds x ds' ob h hob
  unfold kI3 at h
  split at h
  · rename_i a b c d e f
    simp only [Option.some.injEq, Prod.mk.injEq] at h
    obtain ⟨rfl, _, rfl⟩ := h
    refine ⟨[.agg #[.float .f64 a.b, .float .f64 b.b], .agg #[.float .f64 c.b, .float .f64 d.b], .agg #[.float .f64 e.b, .float .f64 f.b]], _, rfl, rfl, fun w => ?_⟩
    have r := run ⟨a, b⟩ ⟨c, d⟩ ⟨e, f⟩ (neB (E ⟨a, b⟩ ⟨c, d⟩ ⟨e, f⟩).2)
    unfold lnR
    cases k : neB (E ⟨a, b⟩ ⟨c, d⟩ ⟨e, f⟩).2 <;> rw [k] at r <;> exact calls_of_val goodG hO n r (ob_c rfl (ho _ _ _ hob)) rfl rfl w
  · cases h
theorem g2G : PlainOk Tryz.prog 67 (kI3 (fun c d al => lnR (g2K KkR c d al) 0) g2O) := I3_of oracleCL (l := fun b => [true, true, true, true, true, true, true, true, true, b]) (g2Run KkR) fun _ _ _ h => h
theorem fdG : PlainOk Tryz.prog 61 (kI2 (fun c n => lnR (fdK KkR c n) 0) fdO) := I2_of oracleCL (l := fun b => [true, true, false, false, false, false, b]) (fdRun KkR) fun c n h => by
  have a := ob_l h; have b := ob_r h
  exact ob_c (not_lt (ob_h a)) (ob_c (not_lt (ob_h (ob_t a))) (ob_c (not_lt (ob_h b)) (ob_c (not_lt (ob_h (ob_t b))) (ob_c (ob_h (ob_t (ob_t a))) (ob_c (ob_h (ob_t (ob_t b))) ob_n)))))
theorem fcG : PlainOk Tryz.prog 63 (kI3 (fun c m n => lnR (fcK KkR c m n) 0) fcO) := I3_of oracleCL (l := fun b => [true, true, true, false, false, false, false, false, false, b]) (fcRun KkR) fun c m n h => by
  have a := ob_l h; have b := ob_l (ob_r h); have e := ob_r (ob_r h)
  exact ob_c (not_lt (ob_h a)) (ob_c (not_lt (ob_h (ob_t a))) (ob_c (not_lt (ob_h b)) (ob_c (not_lt (ob_h (ob_t b))) (ob_c (not_lt (ob_h e)) (ob_c (not_lt (ob_h (ob_t e))) (ob_c (ob_h (ob_t (ob_t a))) (ob_c (ob_h (ob_t (ob_t b))) (ob_c (ob_h (ob_t (ob_t e))) ob_n))))))))
theorem lbG : PlainOk Tryz.prog 56 (kI1 (fun r => lnR (lbK KkR r) 0) u01O) := I1_of oracleCL (l := fun b => [true, false, false, b]) (lbRun KkR) fun r h =>
  ob_c (not_lt (ob_h h)) (ob_c (not_lt (ob_h (ob_t h))) (ob_c (ob_h (ob_t (ob_t h))) ob_n))
set_option maxRecDepth 100000 in
theorem hfG : PlainOk Tryz.prog 65 (kHf (miK KkR)) := by
  intro args ds x ds' ob h hob
  unfold kHf at h
  split at h
  · rename_i a b c d e f g h' i j k l
    simp only [Option.some.injEq, Prod.mk.injEq] at h
    obtain ⟨rfl, _, rfl⟩ := h
    generalize hv : (⟨⟨a, b⟩, ⟨c, d⟩, ⟨e, f⟩⟩ : V3) = v at *
    generalize hu : (⟨⟨g, h'⟩, ⟨i, j⟩, ⟨k, l⟩⟩ : V3) = u at *
    have e1 : (.agg [.fl a, .fl b, .fl c, .fl d, .fl e, .fl f] : SV) = v.sv := by subst hv; rfl
    have e2 : (.agg [.fl g, .fl h', .fl i, .fl j, .fl k, .fl l] : SV) = u.sv := by subst hu; rfl
    rw [e1, e2]
    refine ⟨[.agg #[.float .f64 v.x.lo.b, .float .f64 v.x.hi.b, .float .f64 v.y.lo.b, .float .f64 v.y.hi.b, .float .f64 v.z.lo.b, .float .f64 v.z.hi.b], .agg #[.float .f64 u.x.lo.b, .float .f64 u.x.hi.b, .float .f64 u.y.lo.b, .float .f64 u.y.hi.b, .float .f64 u.z.lo.b, .float .f64 u.z.hi.b]], _, rfl, rfl, fun w => ?_⟩
    unfold lnR
    have r0 := hfRun0 KkR v u
    have r1 := hfRun1 KkR v u
    cases q : neB (miK KkR v u).2
    · have z : (miK KkR v u).2 = 0 := neB_0 q
      rw [z]
      simp only [cond_false]
      generalize gt (miK KkR v u).1 0 = A at r0 ⊢
      generalize gt (miK KkR v u).1 3 = B at r0 ⊢
      exact calls_of_val goodG oracleLk 80 r0 (ob_c q hob) rfl rfl w
    · exact calls_of_val goodG oracleLk 80 r1 (ob_c q hob) rfl rfl w
  · cases h
def OGl (K : Kk) (G : GlK) : OracleF := lookO (OCL K ++ [(64, kMlook), (65, plainO (kHf G.H)), (66, plainO (kGg G.d)), (67, plainO (kI3 G.b g2O)), (68, plainO (kGg G.o))])
def GlR : GlK := ⟨miK KkR, ggR KkR ggD, fun c d al => lnR (g2K KkR c d al) 0, ggR KkR gg1⟩
set_option maxRecDepth 100000 in
theorem oracleGl : OracleOk Tryz.prog (OGl KkR GlR) :=
  .cons addC <| .cons subC <| .cons mulC <| .cons divC <| .cons cmax_I <| .cons sqrC <| .cons csqrt_I <|
  .cons numC <| .cons irtK.of <| .cons rightG.of <| .cons absG.of <| .cons vwG.of <| .cons piG.of <| .cons mlook_ok <| .cons hfG.of <| .cons ggDG.of <| .cons g2G.of <| .cons gg1G.of <| .nil _
def t3f : List Bool := [true, false, false]
def glO' (v u : V3) (al : I) : Obs := (decide (one64.k < al.hi.k), false) :: (decide (al.lo.k < minA.k), false) :: (rt al, true) :: (dirO v ++ dirO u)
def glA (K : Kk) (G : GlK) (v u : V3) (al : I) (b : Bool) : Obs := (neB (G.H v u).2, b) :: (dirO v ++ dirO u ++ glO' v u al)
def glB (K : Kk) (G : GlK) (v u : V3) (al : I) (b : Bool) : Obs := (neB (G.d (glH G v u).1 al).2, b) :: (ggO (glH G v u).1 al ++ glA K G v u al false)
def glC (K : Kk) (G : GlK) (v u : V3) (al : I) (b : Bool) : Obs := (neB (G.b v.z u.z al).2, b) :: (g2O v.z u.z al ++ glB K G v u al false)
def glD (K : Kk) (G : GlK) (v u : V3) (al : I) (b : Bool) : Obs := (neB (G.o u.z al).2, b) :: (ggO u.z al ++ glC K G v u al false)
theorem glRunA (K : Kk) (G : GlK) (v u : V3) (al : I) : valR ((run Tryz.prog EG (OGl K G) 80).1 33 [v.sv, u.sv, ivS al] [] (some (t3f ++ [true]))) = some (.tup [Gl4.zero.sv, .si .i64 (G.H v u).2], some [], glA K G v u al true) := by kernel_rfl
theorem glRunB (K : Kk) (G : GlK) (v u : V3) (al : I) : valR ((run Tryz.prog EG (OGl K G) 80).1 33 [v.sv, u.sv, ivS al] [] (some (t3f ++ [false, true]))) = some (.tup [Gl4.zero.sv, .si .i64 (G.d (glH G v u).1 al).2], some [], glB K G v u al true) := by kernel_rfl
theorem glRunC (K : Kk) (G : GlK) (v u : V3) (al : I) : valR ((run Tryz.prog EG (OGl K G) 80).1 33 [v.sv, u.sv, ivS al] [] (some (t3f ++ [false, false, true]))) = some (.tup [Gl4.zero.sv, .si .i64 (G.b v.z u.z al).2], some [], glC K G v u al true) := by kernel_rfl
theorem glRunD (K : Kk) (G : GlK) (v u : V3) (al : I) : valR ((run Tryz.prog EG (OGl K G) 80).1 33 [v.sv, u.sv, ivS al] [] (some (t3f ++ [false, false, false, true]))) = some (.tup [Gl4.zero.sv, .si .i64 (G.o u.z al).2], some [], glD K G v u al true) := by kernel_rfl
theorem glRunE (K : Kk) (G : GlK) (v u : V3) (al : I) : valR ((run Tryz.prog EG (OGl K G) 80).1 33 [v.sv, u.sv, ivS al] [] (some (t3f ++ [false, false, false, false, true]))) = some (.tup [Gl4.zero.sv, .si .i64 (glE K G v u al).2], some [], (neB (glE K G v u al).2, true) :: glD K G v u al false) := by kernel_rfl
theorem glRunF (K : Kk) (G : GlK) (v u : V3) (al : I) : valR ((run Tryz.prog EG (OGl K G) 80).1 33 [v.sv, u.sv, ivS al] [] (some (t3f ++ [false, false, false, false, false]))) = some (.tup [(glV K G v u al).sv, .i .i64 0], some [], (neB (glE K G v u al).2, false) :: glD K G v u al false) := by kernel_rfl
end Go.Proofs.YtlhlcefkmhhmjaaGreat
namespace Bu
set_option linter.all false
open Rx Go

theorem hl_in {v u : V3} (h : (miK KkR v u).2 = 0) : ObsOk (u01O (gt (miK KkR v u).1 0)) ∧ ObsOk (u01O (gt (miK KkR v u).1 3)) := by
  obtain ⟨_, k⟩ := eval_chain h
  unfold miK at *
  generalize (evalK KkR miH [u.z, u.y, u.x, v.z, v.y, v.x] 0).1 = r at *
  obtain ⟨ax, hax, ay, hay, az, haz, qx, hqx, qy, hqy, s1, hs1, qz, hqz, s2, hs2, n, hn, h0, hh0, h1, hh1, half, hhalf, l1, hl1, l2, hl2, lean, hlean, hend⟩ := k
  subst hend
  have zk : z64.k ≤ one64.k := by decide +kernel
  have kz : ∀ {a b : I}, rt a = true → b = keptI a z64 one64 → ObsOk (u01O b) := by
    intro a b ha hb
    subst hb
    obtain ⟨e1, e2⟩ := keptI_k a z64 one64
    have := of_decide_eq_true ha
    exact ob_c (decide_eq_true (by rw [e2]; omega)) (ob_c (decide_eq_true (by rw [e1]; omega)) (ob_c (keptI_rt ha) ob_n))
  have r1 : rt h1 = true := AllR.rt hh1
  have r2 : rt l2 = true := AllR.rt hl2.2
  exact ⟨kz r2 hlean, kz r1 hhalf⟩
theorem dir_z {v : V3} (h : ObsOk (dirO v)) : ObsOk (u01O v.z) := ob_c (ob_h h) (ob_c (ob_h (ob_t h)) (ob_c (ob_h (ob_t (ob_t (ob_t (ob_t (ob_t (ob_t h))))))) ob_n))
theorem gg_of {c al : I} (h : ObsOk (u01O c)) (ha : ObsOk (alO al)) : ObsOk (ggO c al) := ob_a h ha
end Bu
namespace Go.Proofs.YtlhlcefkmhhmjaaGreat
set_option linter.all false
open Go.RowKit Bu Rx

theorem g2_of {c d al : I} (h : ObsOk (u01O c)) (k : ObsOk (u01O d)) (ha : ObsOk (alO al)) : ObsOk (g2O c d al) := ob_a k (ob_a h ha)
theorem plV (v : V3) : plain v.sv = some (.agg #[.float .f64 v.x.lo.b, .float .f64 v.x.hi.b, .float .f64 v.y.lo.b, .float .f64 v.y.hi.b, .float .f64 v.z.lo.b, .float .f64 v.z.hi.b]) := rfl
theorem plI (a : I) : plain (ivS a) = some (.agg #[.float .f64 a.lo.b, .float .f64 a.hi.b]) := rfl
theorem plG (g : Gl4) (k : Int) : plain (.tup [g.sv, .si .i64 k]) = some (.tuple #[.agg #[.float .f64 g.ln.lo.b, .float .f64 g.ln.hi.b, .float .f64 g.hf.lo.b, .float .f64 g.hf.hi.b, .float .f64 g.v.lo.b, .float .f64 g.v.hi.b, .float .f64 g.d.lo.b, .float .f64 g.d.hi.b], .int .i64 k]) ∧ plain (.tup [g.sv, .i .i64 k]) = some (.tuple #[.agg #[.float .f64 g.ln.lo.b, .float .f64 g.ln.hi.b, .float .f64 g.hf.lo.b, .float .f64 g.hf.hi.b, .float .f64 g.v.lo.b, .float .f64 g.v.hi.b, .float .f64 g.d.lo.b, .float .f64 g.d.hi.b], .int .i64 k]) := ⟨rfl, rfl⟩
set_option maxRecDepth 100000 in
theorem glG : PlainOk Tryz.prog 33 (kGl (glR KkR GlR)) := by
  intro args ds x ds' ob h hob
  unfold kGl at h
  split at h
  · rename_i a b c d e f g h' i j k l p q
    simp only [Option.some.injEq, Prod.mk.injEq] at h
    obtain ⟨rfl, _, rfl⟩ := h
    generalize hv : (⟨⟨a, b⟩, ⟨c, d⟩, ⟨e, f⟩⟩ : V3) = v at *
    generalize hu : (⟨⟨g, h'⟩, ⟨i, j⟩, ⟨k, l⟩⟩ : V3) = u at *
    generalize hal : (⟨p, q⟩ : I) = al at *
    have e1 : (.agg [.fl a, .fl b, .fl c, .fl d, .fl e, .fl f] : SV) = v.sv := by subst hv; rfl
    have e2 : (.agg [.fl g, .fl h', .fl i, .fl j, .fl k, .fl l] : SV) = u.sv := by subst hu; rfl
    have e3 : (.agg [.fl p, .fl q] : SV) = ivS al := by subst hal; rfl
    rw [e1, e2, e3]
    have oa : ObsOk (alO al) := ob_l hob
    have ov : ObsOk (dirO v) := ob_l (ob_r hob)
    have ou : ObsOk (dirO u) := ob_r (ob_r hob)
    have hargs := plains_cons (plV v) (plains_cons (plV u) (plains_cons (plI al) plains_nil))
    refine ⟨_, _, hargs, (plG _ _).1, fun w => ?_⟩
    have o' : ObsOk (glO' v u al) := ob_c (not_lt (ob_h oa)) (ob_c (not_lt (ob_h (ob_t oa))) (ob_c (ob_h (ob_t (ob_t oa))) (ob_a ov ou)))
    have rA := glRunA KkR GlR v u al
    have rB := glRunB KkR GlR v u al
    have rC := glRunC KkR GlR v u al
    have rD := glRunD KkR GlR v u al
    have rE := glRunE KkR GlR v u al
    have rF := glRunF KkR GlR v u al
    have hl : (GlR.H v u).2 = 0 → ObsOk (u01O (glH GlR v u).1) := by
      intro z
      have := (hl_in (v := v) (u := u) z).1
      unfold glH lnR
      rw [show neB (GlR.H v u).2 = false by rw [z]; rfl]
      exact this
    unfold glR
    unfold glErr
    have oA : ∀ t, neB (GlR.H v u).2 = t → ObsOk (glA KkR GlR v u al t) := fun t ht => ob_c ht (ob_a (ob_a ov ou) o')
    cases q1 : neB (GlR.H v u).2
    · have z1 := hl (neB_0 q1)
      have oB : ∀ t, neB (GlR.d (glH GlR v u).1 al).2 = t → ObsOk (glB KkR GlR v u al t) := fun t ht => ob_c ht (ob_a (gg_of z1 oa) (oA _ q1))
      simp only [cond_false]
      cases q2 : neB (GlR.d (glH GlR v u).1 al).2
      · have oC : ∀ t, neB (GlR.b v.z u.z al).2 = t → ObsOk (glC KkR GlR v u al t) := fun t ht => ob_c ht (ob_a (g2_of (dir_z ov) (dir_z ou) oa) (oB _ q2))
        simp only [cond_false]
        cases q3 : neB (GlR.b v.z u.z al).2
        · have oD : ∀ t, neB (GlR.o u.z al).2 = t → ObsOk (glD KkR GlR v u al t) := fun t ht => ob_c ht (ob_a (gg_of (dir_z ou) oa) (oC _ q3))
          simp only [cond_false]
          cases q4 : neB (GlR.o u.z al).2
          · simp only [cond_false]
            cases q5 : neB (glE KkR GlR v u al).2
            · simp only [cond_false]
              generalize glV KkR GlR v u al = V at *
              exact calls_of_val goodG oracleGl 80 rF (ob_c q5 (oD _ q4)) hargs (plG _ _).2 w
            · simp only [cond_true]
              exact calls_of_val goodG oracleGl 80 rE (ob_c q5 (oD _ q4)) hargs (plG _ _).1 w
          · simp only [cond_true, q4]
            exact calls_of_val goodG oracleGl 80 rD (oD _ q4) hargs (plG _ _).1 w
        · simp only [cond_true, q3]
          exact calls_of_val goodG oracleGl 80 rC (oC _ q3) hargs (plG _ _).1 w
      · simp only [cond_true, q2]
        exact calls_of_val goodG oracleGl 80 rB (oB _ q2) hargs (plG _ _).1 w
    · simp only [cond_true, q1]
      exact calls_of_val goodG oracleGl 80 rA (oA _ q1) hargs (plG _ _).1 w
  · cases h
end Go.Proofs.YtlhlcefkmhhmjaaGreat
namespace Rx
set_option linter.all false
open Go Go.RowKit

theorem isSome_eq {α : Type} {x : Option α} {d : α} (h : x.isSome = true) : x = some (x.getD d) := by cases x with
  | none => cases h
  | some a => rfl
def stO (P : Program) (E : ExtF) (O : OracleF) (n : Nat) (c : Code) (s : St) : St := match (run P E O n).2 c s with | some (_, s') => s' | none => s
def exO (P : Program) (E : ExtF) (O : OracleF) (n : Nat) (c : Code) (s : St) (ex : Ex) : Prop := (run P E O n).2 c s = some (ex, stO P E O n c s)
def rnO (P : Program) (E : ExtF) (O : OracleF) (n : Nat) (ops : Array Oper) (l : List Oper) (s : St) : St := (runOps P E (run P E O n).1 ops l s).getD s
def opsOf : Code → Array Oper | .region _ ops _ => ops | _ => #[]
/-- a contract out of what a body's weakest condition tells -/
theorem calls_of_ends {P : Program} {g : FuncId} {fn : Func} {c : Code} {args : List SV} {x : SV} {vs : List Value} {v : Value} (hg : P.funcs[g]? = some fn) (hb : fn.body = some c) (hvs : plains args = some vs) (hv : plain x = some v) (w : World)
    (h : ∀ (a : Act) (Q : Exit → Act → World → Prop), StAt (fun _ => none) ⟨args ++ List.replicate (fn.ntmps - args.length) (.tup []), [], none, []⟩ a w →
      (∀ m' s' a' w', resultS P fn s' = some x → StAt m' s' a' w' → Goes (fun _ => none) w m' w' → Q .ret a' w') → c.wp P Q a w) :
    Calls P g vs.toArray w fun e w' => e = .returned v ∧ Below w.heap.size w w' := by
  have hvs' := dens_plains (m := fun _ => none) hvs
  have hl := dens_length hvs'
  refine calls_of_wp hg hb ?_
  have htm : dens (fun _ => none) (args ++ List.replicate (fn.ntmps - args.length) (.tup [])) = some (vs.toArray ++ Array.replicate (fn.ntmps - vs.toArray.size) undef).toList := by
    have := dens_append hvs' (dens_replicate (undef_den (fun _ => none)) (fn.ntmps - args.length))
    rw [this]; simp [hl]
  refine h _ _ ⟨htm, rfl, ⟨⟨by simp, by simp⟩, by simp, by simp⟩⟩ fun m' s' a' w' hx hst hgo => ?_
  obtain ⟨u, hu, hr⟩ := resultS_ok hst hx
  have := den_plain (m := m') hv
  rw [hu] at this
  simp only [Option.some.injEq] at this; subst this
  exact ⟨hst.df, u, hr, rfl, hgo.fr.os, hgo.fr.tape, hgo.fr.output, hgo.fr.size, fun k hk => hgo.fr.block k hk (by simp)⟩
end Rx
namespace Go.Proofs.YtlhlcefkmhhmjaaGreat
set_option linter.all false
open Go.RowKit Bu Rx

def nodeS (k : Int) (f : Nat → F) : SV := .agg [.i .u8 k, .fl (f 0), .fl (f 1), .fl (f 2), .fl (f 3), .fl (f 4), .fl (f 5), .fl (f 6), .fl (f 7), .fl (f 8), .fl (f 9), .fl (f 10), .fl (f 11), .fl (f 12), .fl (f 13), .fl (f 14), .fl (f 15), .i .i64 0, .i .i64 0]
def leafS (k : Int) (f : Nat → F) (c : Int) (v u : V3) : SV := .agg [.i .u8 k, .fl (f 0), .fl (f 1), .fl (f 2), .fl (f 3), .fl (f 4), .fl (f 5), .fl (f 6), .fl (f 7), .fl (f 8), .fl (f 9), .fl (f 10), .fl (f 11), .fl (f 12), .fl (f 13), .fl (f 14), .fl (f 15), .i .i64 0, .i .i64 0, .si .i64 c, .fl v.x.lo, .fl v.x.hi, .fl v.y.lo, .fl v.y.hi, .fl v.z.lo, .fl v.z.hi, .fl u.x.lo, .fl u.x.hi, .fl u.y.lo, .fl u.y.hi, .fl u.z.lo, .fl u.z.hi]
def kLk (o : SV → Obs) : List SV → Dec → Option (SV × Dec × Obs)
  | [x], ds => some (.i .i64 0, ds, o x)
  | _, _ => none
def kLf (g : SV → I × Int) (o : SV → Obs) : List SV → Dec → Option (SV × Dec × Obs)
  | [x], ds => some (.tup [.agg [.fl (g x).1.lo, .fl (g x).1.hi], .si .i64 (g x).2], ds, o x)
  | _, _ => none
structure Lfs where
  lk : SV → Obs
  g : SV → I × Int
  o : SV → Obs
/-- look, and the one method -/
noncomputable def OVl (L : Lfs) (m : Nat) : OracleF := lookO [(27, plainO (kLk L.lk)), (m, plainO (kLf L.g L.o))]
noncomputable def vC : Code := bodyOf Tryz.prog 9
noncomputable def vR0 : Code := seqL vC
noncomputable def vR1 : Code := seqL (seqR vC)
noncomputable def vX : Code := seqL (seqR (seqR vC))
noncomputable def vR5 : Code := seqL (seqR (seqR (seqR vC)))
noncomputable def vR6 : Code := seqL (seqR (seqR (seqR (seqR vC))))
noncomputable def vT : Code := seqR (seqR (seqR (seqR (seqR vC))))
theorem vC_cut : vC = .seq vR0 (.seq vR1 (.seq vX (.seq vR5 (.seq vR6 vT)))) := by kernel_rfl
theorem vBody : Tryz.f9.body = some vC := by kernel_rfl
theorem vR5_ops : vR5 = .region 5 (opsOf vR5) false := by kernel_rfl
theorem vR6_ops : vR6 = .region 6 (opsOf vR6) false := by kernel_rfl
section
variable (L : Lfs) (g : Nat) (k : Int) (f : Nat → F) (c : Int) (v u : V3) (r : Nat)
def vArgs : List SV := [nodeS k f, .si .i64 c, v.sv, u.sv]
noncomputable def vs0 : St := ⟨vArgs k f c v u ++ List.replicate 30 (.tup []), [], none, []⟩
noncomputable def vs1 : St := stO Tryz.prog EG (OVl L g) 60 vR0 (vs0 k f c v u)
noncomputable def vs2 : St := stO Tryz.prog EG (OVl L g) 60 vR1 (vs1 L g k f c v u)
noncomputable def vs3 : St := stO Tryz.prog EG (OVl L g) 60 vX (vs2 L g k f c v u)
noncomputable def vsM : St := ⟨putT (some 24) (.o (.map (some r))) (vs3 L g k f c v u).T, (vs3 L g k f c v u).M, (vs3 L g k f c v u).ds, (vs3 L g k f c v u).ob⟩
noncomputable def vs5 : St := rnO Tryz.prog EG (OVl L g) 60 (opsOf vR5) ((opsOf vR5).toList.drop 5) (vsM L g k f c v u r)
noncomputable def vs6 : St := rnO Tryz.prog EG (OVl L g) 60 (opsOf vR6) ((opsOf vR6).toList.take 3) (vs5 L g k f c v u r)
noncomputable def vsL : St := ⟨putT (some 29) (.fn (.func g) [] []) (vs6 L g k f c v u r).T, (vs6 L g k f c v u r).M, (vs6 L g k f c v u r).ds, (vs6 L g k f c v u r).ob⟩
noncomputable def vs7 : St := rnO Tryz.prog EG (OVl L g) 60 (opsOf vR6) ((opsOf vR6).toList.drop 4) (vsL L g k f c v u r)
noncomputable def vs8 : St := stO Tryz.prog EG (OVl L g) 60 vT (vs7 L g k f c v u r)
theorem ve0 : exO Tryz.prog EG (OVl L g) 60 vR0 (vs0 k f c v u) .normal := by unfold exO; kernel_rfl
theorem ve1 : exO Tryz.prog EG (OVl L g) 60 vR1 (vs1 L g k f c v u) .normal := by unfold exO; kernel_rfl
theorem ve2 : exO Tryz.prog EG (OVl L g) 60 vX (vs2 L g k f c v u) .normal := by unfold exO; kernel_rfl
theorem ve5 : (runOps Tryz.prog EG (run Tryz.prog EG (OVl L g) 60).1 (opsOf vR5) ((opsOf vR5).toList.drop 5) (vsM L g k f c v u r)).isSome = true := by kernel_rfl
theorem ve6 : (runOps Tryz.prog EG (run Tryz.prog EG (OVl L g) 60).1 (opsOf vR6) ((opsOf vR6).toList.take 3) (vs5 L g k f c v u r)).isSome = true := by kernel_rfl
theorem vob1 : (vs1 L g k f c v u).ob = [] := by kernel_rfl
theorem vob2 : (vs2 L g k f c v u).ob = [] := by kernel_rfl
theorem vob3 : (vs3 L g k f c v u).ob = L.lk (leafS k f c v u) ++ [] := by kernel_rfl
theorem vob5 : (vs5 L g k f c v u r).ob = L.lk (leafS k f c v u) ++ [] := by kernel_rfl
theorem vob6 : (vs6 L g k f c v u r).ob = L.lk (leafS k f c v u) ++ [] := by kernel_rfl
theorem vlen3 : (vs3 L g k f c v u).T.length = 34 := by kernel_rfl
theorem vop26 : oper (vs6 L g k f c v u r).T (.tmp 26) = .o (.map (some r)) := by kernel_rfl
theorem vop28 : oper (vs6 L g k f c v u r).T (.tmp 28) = .i .u8 k := by kernel_rfl
end
noncomputable def o5 (i : Nat) : Oper := (opsOf vR5).toList.getD i default
noncomputable def o6 (i : Nat) : Oper := (opsOf vR6).toList.getD i default
theorem l5 : (opsOf vR5).toList = o5 0 :: o5 1 :: o5 2 :: o5 3 :: o5 4 :: (opsOf vR5).toList.drop 5 := by kernel_rfl
theorem l6 : (opsOf vR6).toList = (opsOf vR6).toList.take 3 ++ o6 3 :: (opsOf vR6).toList.drop 4 := by kernel_rfl
theorem g5 : (o5 0).guard = none ∧ (o5 1).guard = none ∧ (o5 2).guard = none ∧ (o5 3).guard = none ∧ (o5 4).guard = none ∧ (o6 3).guard = none := ⟨by kernel_rfl, by kernel_rfl, by kernel_rfl, by kernel_rfl, by kernel_rfl, by kernel_rfl⟩
theorem d5 : (o5 0).dst = some 24 ∧ (o5 1).dst = none ∧ (o5 2).dst = none ∧ (o5 3).dst = none ∧ (o5 4).dst = none ∧ (o6 3).dst = some 29 := ⟨by kernel_rfl, by kernel_rfl, by kernel_rfl, by kernel_rfl, by kernel_rfl, by kernel_rfl⟩
theorem p5 : (o5 0).op = Op.makeMap 69 none ∧ (o5 1).op = Op.insert 69 (.tmp 24) (.const (.int .u8 1)) (.func 28) ∧ (o5 2).op = Op.insert 69 (.tmp 24) (.const (.int .u8 2)) (.func 29) ∧ (o5 3).op = Op.insert 69 (.tmp 24) (.const (.int .u8 3)) (.func 30) ∧ (o5 4).op = Op.insert 69 (.tmp 24) (.const (.int .u8 4)) (.func 31) ∧ (o6 3).op = Op.lookup 69 (.tmp 26) (.tmp 28) false := ⟨by kernel_rfl, by kernel_rfl, by kernel_rfl, by kernel_rfl, by kernel_rfl, by kernel_rfl⟩
theorem uM : Tryz.prog.underlying 69 = some (.map 5 67) := by kernel_rfl
theorem uK : Tryz.prog.underlying 5 = some (.int .u8) := by kernel_rfl
theorem zF (w : World) : (zeroValue 67).run Tryz.prog w = .ok .nilFunc w := by kernel_rfl
attribute [irreducible] o5 o6 vC vR0 vR1 vX vR5 vR6 vT
set_option maxRecDepth 100000 in
set_option maxHeartbeats 1000000 in
theorem value_of {L : Lfs} {g : Nat} {k : Int} (f : Nat → F) (c : Int) (v u : V3) (hO : OracleOk Tryz.prog (OVl L g)) (hwf : (Lit.int .u8 k).wf = true)
    (hat : (tabD 28 29 30 31).atKey (.int .u8 k) (.lit (.bool false)) = .lit (.int .i64 (g : Int)))
    (h7 : ∀ r, (runOps Tryz.prog EG (run Tryz.prog EG (OVl L g) 60).1 (opsOf vR6) ((opsOf vR6).toList.drop 4) (vsL L g k f c v u r)).isSome = true)
    (h8 : ∀ r, exO Tryz.prog EG (OVl L g) 60 vT (vs7 L g k f c v u r) .ret)
    (hob7 : ∀ r, (vs7 L g k f c v u r).ob = L.o (leafS k f c v u) ++ (L.lk (leafS k f c v u) ++ [])) (hob8 : ∀ r, (vs8 L g k f c v u r).ob = L.o (leafS k f c v u) ++ (L.lk (leafS k f c v u) ++ []))
    (hres : ∀ r, resultS Tryz.prog Tryz.f9 (vs8 L g k f c v u r) = some (.tup [ivS (L.g (leafS k f c v u)).1, .si .i64 (L.g (leafS k f c v u)).2]))
    (hlk : ObsOk (L.lk (leafS k f c v u))) (ho : ObsOk (L.o (leafS k f c v u))) {vs : List Value} (hvs : plains (vArgs k f c v u) = some vs) (w : World) :
    Calls Tryz.prog 9 vs.toArray w fun e w' => e = .returned (.tuple #[.agg #[.float .f64 (L.g (leafS k f c v u)).1.lo.b, .float .f64 (L.g (leafS k f c v u)).1.hi.b], .int .i64 (L.g (leafS k f c v u)).2]) ∧ Below w.heap.size w w' := by
  have hl0 : ObsOk (L.lk (leafS k f c v u) ++ []) := ob_a hlk ob_n
  have hall : ObsOk (L.o (leafS k f c v u) ++ (L.lk (leafS k f c v u) ++ [])) := ob_a ho hl0
  have hcall := (run_ok goodG hO 60).1
  refine calls_of_ends (x := .tup [ivS (L.g (leafS k f c v u)).1, .si .i64 (L.g (leafS k f c v u)).2]) Tryz.func9 vBody hvs rfl w fun a Q hs hq => ?_
  rw [vC_cut]
  refine wp_seq (RunsTo.of goodG hO (ve0 L g k f c v u) (by show ObsOk (vs1 L g k f c v u).ob; rw [vob1]; exact ob_n) _ a w _ hs fun m1 a1 w1 hs1 go1 => ?_)
  refine wp_seq (RunsTo.of goodG hO (ve1 L g k f c v u) (by show ObsOk (vs2 L g k f c v u).ob; rw [vob2]; exact ob_n) m1 a1 w1 _ hs1 fun m2 a2 w2 hs2 go2 => ?_)
  refine wp_seq (RunsTo.of goodG hO (ve2 L g k f c v u) (by show ObsOk (vs3 L g k f c v u).ob; rw [vob3]; exact hl0) m2 a2 w2 _ hs2 fun m3 a3 w3 hs3 go3 => ?_)
  have hs3' : StAt m3 (vs3 L g k f c v u) a3 w3 := hs3
  refine wp_seq ?_
  rw [vR5_ops]
  refine wp_region_list ?_
  rw [l5]
  have hsz : 24 < a3.tmps.size := by
    have e := dens_length hs3'.tm
    rw [vlen3] at e
    have : a3.tmps.toList.length = a3.tmps.size := Array.length_toList
    omega
  obtain ⟨q0, q1, q2, q3, q4, q5⟩ := g5
  obtain ⟨e0, e1, e2, e3, e4, e5⟩ := d5
  obtain ⟨p0, p1, p2, p3, p4, p6⟩ := p5
  refine tab_made uK uM q0 q1 q2 q3 q4 p0 e0 e1 e2 e3 e4 p1 p2 p3 p4 hsz hs3' fun r aM wM own hbM hr hsM goM => ?_
  have h5 := isSome_eq (d := vsM L g k f c v u r) (ve5 L g k f c v u r)
  refine runOps_ok goodG hcall h5 (by show ObsOk (vs5 L g k f c v u r).ob; rw [vob5]; exact hl0) hsM fun m5 a5 w5 hs5 go5 => ?_
  refine wp_seq ?_
  rw [vR6_ops]
  refine wp_region_list ?_
  rw [l6]
  have h6 := isSome_eq (d := vs5 L g k f c v u r) (ve6 L g k f c v u r)
  refine runOps_then goodG hcall h6 (by show ObsOk (vs6 L g k f c v u r).ob; rw [vob6]; exact hl0) hs5 fun m6 a6 w6 hs6 go6 => ?_
  have hs6' : StAt m6 (vs6 L g k f c v u r) a6 w6 := hs6
  have rM : r < wM.heap.size := own.lt
  have n3 : ∀ n, m3 n ≠ some r := fun n h => by have := hs3'.mem.ok.lt n r h; omega
  have n5 : ∀ n, m5 n ≠ some r := fun n h => by
    rcases go5.new n r h with h | h
    · exact n3 n h
    · omega
  have b5 := go5.fr.block r rM (fun ⟨n, h⟩ => n3 n h)
  have b6 := go6.fr.block r (Nat.lt_of_lt_of_le rM go5.fr.size) (fun ⟨n, h⟩ => n5 n h)
  have own6 : w6.ownsMap Tryz.prog 5 fnR r 4 (tabD 28 29 30 31) := by
    obtain ⟨es, cl, hb, rest⟩ := own
    exact ⟨es, cl, (b6.trans b5).trans hb, rest⟩
  have v26 : a6.eval (.tmp 26) = .map (some r) := by
    have h := oper_ok hs6'.tm (.tmp 26)
    rw [vop26] at h
    simp [den] at h; exact h.symm
  have v28 : a6.eval (.tmp 28) = .int .u8 k := by
    have h := oper_ok hs6'.tm (.tmp 28)
    rw [vop28] at h
    simp [den] at h; exact h.symm
  refine wpList_lookup_fn w6 q5 _ _ _ p6 _ _ (Go.Maps.int_keyed uK) uM (zF w6) r 4 _ v26 own6 _ _ v28 (Go.Maps.keyOf_int_mk uK hwf) g hat ?_
  rw [e5]
  have hsL : StAt m6 (vsL L g k f c v u r) (a6.put (some 29) (.func (.func g) #[] #[])) w6 := ⟨putT_ok hs6'.tm (x := .fn (.func g) [] []) (by simp [den, dens]) (some 29), hs6'.df, hs6'.mem⟩
  have h7' := isSome_eq (d := vsL L g k f c v u r) (h7 r)
  refine runOps_ok goodG hcall h7' (by show ObsOk (vs7 L g k f c v u r).ob; rw [hob7]; exact hall) hsL fun m7 a7 w7 hs7 go7 => ?_
  refine RunsTo.of goodG hO (h8 r) (by show ObsOk (vs8 L g k f c v u r).ob; rw [hob8]; exact hall) m7 a7 w7 _ hs7 fun m8 a8 w8 hs8 go8 => ?_
  exact hq m8 _ a8 w8 (hres r) hs8 (((((((go1.trans go2).trans go3).trans goM).trans go5).trans go6).trans go7).trans go8)
end Go.Proofs.YtlhlcefkmhhmjaaGreat
namespace Bu
set_option linter.all false
open Rx Go

def q3E (f b : Nat → F) (i : Nat) : Bool := decide ((f i).k = (b i).k) && (decide ((f (i + 1)).k = (b (i + 1)).k) && (decide ((f (i + 2)).k = (b (i + 2)).k) && true))
def eqNd (f b : Nat → F) : Bool := q3E f b 0 && (q3E f b 3 && (q3E f b 6 && (q3E f b 9 && (decide ((f 12).k = (b 12).k) && (decide ((f 13).k = (b 13).k) && (decide ((f 14).k = (b 14).k) && (decide ((f 15).k = (b 15).k) && ((0 : Int) == 0 && ((0 : Int) == 0 && true)))))))))
/-- but for the fields of a kind: 0 -/
def bare1 (f : Nat → F) (i : Nat) : F := bif Nat.blt i 3 then f i else z64
def bare2 (f : Nat → F) (i : Nat) : F := bif Nat.blt i 3 || Nat.beq i 12 then f i else z64
def bare3 (f : Nat → F) (i : Nat) : F := bif Nat.beq i 13 || Nat.beq i 14 then f i else z64
def bare4 (f : Nat → F) (i : Nat) : F := bif Nat.beq i 13 || (Nat.blt 5 i && Nat.blt i 12) then f i else z64
def rngO (x l h : F) (o : Obs) : Obs := (decide (h.k < x.k), false) :: (decide (x.k < l.k), false) :: o
def rtO1 (f : Nat → F) : Obs := (eqNd f (bare1 f), true) :: rngO (f 2) z64 one64 (rngO (f 1) z64 one64 (rngO (f 0) z64 one64 []))
def rtO2 (f : Nat → F) : Obs := (eqNd f (bare2 f), true) :: rngO (f 12) z64 one64 (rngO (f 2) z64 one64 (rngO (f 1) z64 one64 (rngO (f 0) z64 one64 [])))
def rtO3 (f : Nat → F) : Obs := (eqNd f (bare3 f), true) :: rngO (f 14) minIo four64 (rngO (f 13) minA one64 [])
def rtO4 (f : Nat → F) : Obs := (eqNd f (bare4 f), true) :: rngO (f 11) minMt maxMt (rngO (f 10) minMt maxMt (rngO (f 9) minMt maxMt (rngO (f 8) minMt maxMt (rngO (f 7) minMt maxMt (rngO (f 6) minMt maxMt (rngO (f 13) minA one64 []))))))
/-- a leaf that may be -/
def rtOb (k : Int) (f : Nat → F) : Obs := match k with
  | 1 => rtO1 f
  | 2 => rtO2 f
  | 3 => rtO3 f
  | 4 => rtO4 f
  | _ => [(false, true)]
/-- of rho, sigma, i, o, d -/
def orA : List Op := [.mul 2 1, .sub 1 0, .kept mone64 one64 0, .lit (PIc), .num (two64), .num (one64), .div 2 1, .num (three64), .div 3 0, .sub 2 0, .mul 0 13, .add 7 0, .div 6 0, .mul 16 0, .mul 0 11, .add 2 0, .mul 20 0, .kept z64 one64 0]
/-- of rho, sigma, i, o, d -/
def orB : List Op := [.mul 2 1, .sub 1 0, .max 4 3, .div 1 0, .kept mone64 one64 0, .lit (PIc), .num (two64), .num (one64), .div 2 1, .num (three64), .div 3 0, .sub 2 0, .mul 0 15, .add 7 0, .div 6 0, .mul 18 0, .mul 0 11, .add 2 0, .mul 22 0, .kept z64 one64 0]
def posH (a : I) : I := ⟨z64, a.hi⟩
def negH (a : I) : I := ⟨a.lo, z64⟩
/-- of rho, sigma, i, o, d -/
def orC : List Op := [.mul 2 1, .sub 1 0, .fn (posH) 0, .max 5 4, .div 1 0, .fn (negH) 3, .fn2 (hullI) 0 1, .kept mone64 one64 0, .lit (PIc), .num (two64), .num (one64), .div 2 1, .num (three64), .div 3 0, .sub 2 0, .mul 0 18, .add 7 0, .div 6 0, .mul 21 0, .mul 0 11, .add 2 0, .mul 25 0, .kept z64 one64 0]
def orQ (K : Kk) (i o d : I) : I := (K.sub (K.mul 0 i o).2 d (K.mul 0 i o).1).1
def orE (K : Kk) (l : List Op) (rho sg i o d : I) : List I × Int := evalK K l [d, o, i, sg, rho] 0
def orOb (rho sg i o d : I) : Obs := rng2 d mone64 (rng2 o z64 (rng2 i z64 (rng2 sg z64 (rng2 rho z64 [(rt d, true), (rt o, true), (rt i, true), (rt sg, true), (rt rho, true)]))))
where rng2 (a : I) (l : F) (o : Obs) : Obs := (decide (one64.k < a.hi.k), false) :: (decide (a.lo.k < l.k), false) :: o
end Bu
namespace Go.Proofs.YtlhlcefkmhhmjaaGreat
set_option linter.all false
open Go.RowKit Bu Rx

theorem rtRun1 (K : Kk) (f : Nat → F) : valR ((run Tryz.prog EG (lookO (OCL K)) 80).1 8 [nodeS 1 f] [] (some [false, false, false, false, false, false, true])) = some (.b true, some [], rtO1 f) := by kernel_rfl
theorem rtRun2 (K : Kk) (f : Nat → F) : valR ((run Tryz.prog EG (lookO (OCL K)) 80).1 8 [nodeS 2 f] [] (some [false, false, false, false, false, false, false, false, true])) = some (.b true, some [], rtO2 f) := by kernel_rfl
theorem rtRun3 (K : Kk) (f : Nat → F) : valR ((run Tryz.prog EG (lookO (OCL K)) 80).1 8 [nodeS 3 f] [] (some [false, false, false, false, true])) = some (.b true, some [], rtO3 f) := by kernel_rfl
theorem rtRun4 (K : Kk) (f : Nat → F) : valR ((run Tryz.prog EG (lookO (OCL K)) 80).1 8 [nodeS 4 f] [] (some [false, false, false, false, false, false, false, false, false, false, false, false, false, false, true])) = some (.b true, some [], rtO4 f) := by kernel_rfl
def OOr (K : Kk) : OracleF := lookO (OCL K ++ [(75, plainO (oI2 hullI))])
def t15f : List Bool := [true, true, true, true, true, false, false, false, false, false, false, false, false, false, false]
theorem orRunA (K : Kk) (r s i o d : I) (b : Bool) : valR ((run Tryz.prog EG (OOr K) 80).1 58 [ivS r, ivS s, ivS i, ivS o, ivS d] [] (some (t15f ++ [true, b]))) = some (.tup (bif b then [ivS I.zero, .si .i64 (orE K orA r s i o d).2] else [ivS (gt (orE K orA r s i o d).1 0), .i .i64 0]), some [], (neB (orE K orA r s i o d).2, b) :: (decide ((orQ K i o d).hi.k ≤ z64.k), true) :: orOb r s i o d) := by cases b <;> kernel_rfl
theorem orRunB (K : Kk) (r s i o d : I) (b : Bool) : valR ((run Tryz.prog EG (OOr K) 80).1 58 [ivS r, ivS s, ivS i, ivS o, ivS d] [] (some (t15f ++ [false, true, b]))) = some (.tup (bif b then [ivS I.zero, .si .i64 (orE K orB r s i o d).2] else [ivS (gt (orE K orB r s i o d).1 0), .i .i64 0]), some [], (neB (orE K orB r s i o d).2, b) :: (decide (z64.k ≤ (orQ K i o d).lo.k), true) :: (decide ((orQ K i o d).hi.k ≤ z64.k), false) :: orOb r s i o d) := by cases b <;> kernel_rfl
theorem orRunC (K : Kk) (r s i o d : I) (b : Bool) : valR ((run Tryz.prog EG (OOr K) 80).1 58 [ivS r, ivS s, ivS i, ivS o, ivS d] [] (some (t15f ++ [false, false, b]))) = some (.tup (bif b then [ivS I.zero, .si .i64 (orE K orC r s i o d).2] else [ivS (gt (orE K orC r s i o d).1 0), .i .i64 0]), some [], (neB (orE K orC r s i o d).2, b) :: (decide (z64.k ≤ (orQ K i o d).lo.k), false) :: (decide ((orQ K i o d).hi.k ≤ z64.k), false) :: orOb r s i o d) := by cases b <;> kernel_rfl
end Go.Proofs.YtlhlcefkmhhmjaaGreat
namespace Bu
set_option linter.all false
open Rx Go

/-- of X, Y, Z, U, V, W -/
def dtP : List Op := [.mul 5 2, .mul 5 2, .add 1 0, .mul 6 3, .add 1 0, .kept mone64 one64 0]
def dtK (K : Kk) (v u : V3) : List I × Int := evalK K dtP [u.z, u.y, u.x, v.z, v.y, v.x] 0
def pF (x : F) : I := ⟨x, x⟩
/-- what the methods call -/
structure Gm where
  gl : V3 → V3 → I → Gl4 × Int
  dl : I → I → I × Int
  cd : I → I → I → I × Int
  lb : I → I × Int
  od : I → I → I → I → I → I × Int
def kI5 (f : I → I → I → I → I → I × Int) (o : I → I → I → I → I → Obs) : List SV → Dec → Option (SV × Dec × Obs)
  | [.agg [.fl a, .fl b], .agg [.fl c, .fl d], .agg [.fl e, .fl g], .agg [.fl h, .fl i], .agg [.fl j, .fl k]], ds => some (.tup [.agg [.fl (f ⟨a, b⟩ ⟨c, d⟩ ⟨e, g⟩ ⟨h, i⟩ ⟨j, k⟩).1.lo, .fl (f ⟨a, b⟩ ⟨c, d⟩ ⟨e, g⟩ ⟨h, i⟩ ⟨j, k⟩).1.hi], .si .i64 (f ⟨a, b⟩ ⟨c, d⟩ ⟨e, g⟩ ⟨h, i⟩ ⟨j, k⟩).2], ds, o ⟨a, b⟩ ⟨c, d⟩ ⟨e, g⟩ ⟨h, i⟩ ⟨j, k⟩)
  | _, _ => none
def orO5 (r s i o d : I) : Obs := bndO r z64 one64 ++ (bndO s z64 one64 ++ (bndO i z64 one64 ++ (bndO o z64 one64 ++ bndO d mone64 one64)))
def orR (K : Kk) (r s i o d : I) : I × Int := bif decide ((orQ K i o d).hi.k ≤ z64.k) then lnR (orE K orA r s i o d) 0 else bif decide (z64.k ≤ (orQ K i o d).lo.k) then lnR (orE K orB r s i o d) 0 else lnR (orE K orC r s i o d) 0
/-- a product of what a mirror sends, or an error -/
def glM (K : Kk) (g : Gl4 × Int) (r : I × Int) : I × Int := bif neB g.2 then (I.zero, g.2) else bif neB r.2 then (I.zero, r.2) else bif neB (K.mul 0 g.1.v r.1).2 then (I.zero, (K.mul 0 g.1.v r.1).2) else ((K.mul 0 g.1.v r.1).1, 0)
def meL (G : Gm) (f : Nat → F) (c : Nat) : I × Int := G.lb (pF (f c))
def meO (K : Kk) (G : Gm) (f : Nat → F) (c : Nat) (v u : V3) : I × Int := bif neB (dtK K v u).2 then (I.zero, (dtK K v u).2) else G.od (pF (f c)) (pF (f 12)) v.z u.z (gt (dtK K v u).1 0)
def meP (K : Kk) (G : Gm) (f : Nat → F) (v u : V3) : I × Int := glM K (G.gl v u (pF (f 13))) (G.dl (G.gl v u (pF (f 13))).1.hf (pF (f 14)))
def meM (K : Kk) (G : Gm) (f : Nat → F) (c : Nat) (v u : V3) : I × Int := glM K (G.gl v u (pF (f 13))) (G.cd (G.gl v u (pF (f 13))).1.hf (pF (f (6 + c))) (pF (f (9 + c))))
end Bu
namespace Go.Proofs.YtlhlcefkmhhmjaaGreat
set_option linter.all false
open Go.RowKit Bu Rx

def leafI (k : Int) (f : Nat → F) (c : Int) (v u : V3) : SV := .agg [.i .u8 k, .fl (f 0), .fl (f 1), .fl (f 2), .fl (f 3), .fl (f 4), .fl (f 5), .fl (f 6), .fl (f 7), .fl (f 8), .fl (f 9), .fl (f 10), .fl (f 11), .fl (f 12), .fl (f 13), .fl (f 14), .fl (f 15), .i .i64 0, .i .i64 0, .i .i64 c, .fl v.x.lo, .fl v.x.hi, .fl v.y.lo, .fl v.y.hi, .fl v.z.lo, .fl v.z.hi, .fl u.x.lo, .fl u.x.hi, .fl u.y.lo, .fl u.y.hi, .fl u.z.lo, .fl u.z.hi]
/-- a node, out of its cells -/
def ndF (a0 a1 a2 a3 a4 a5 a6 a7 a8 a9 a10 a11 a12 a13 a14 a15 : F) (i : Nat) : F := [a0, a1, a2, a3, a4, a5, a6, a7, a8, a9, a10, a11, a12, a13, a14, a15].getD i z64
def kRt (o : Int → (Nat → F) → Obs) : List SV → Dec → Option (SV × Dec × Obs)
  | [.agg [.i .u8 k, .fl a0, .fl a1, .fl a2, .fl a3, .fl a4, .fl a5, .fl a6, .fl a7, .fl a8, .fl a9, .fl a10, .fl a11, .fl a12, .fl a13, .fl a14, .fl a15, .i .i64 0, .i .i64 0]], ds => some (.b true, ds, o k (ndF a0 a1 a2 a3 a4 a5 a6 a7 a8 a9 a10 a11 a12 a13 a14 a15))
  | _, _ => none
theorem rtK : PlainOk Tryz.prog 8 (kRt rtOb) := by
  intro args ds x ds' ob h ho
  unfold kRt at h
  split at h
  · rename_i k a0 a1 a2 a3 a4 a5 a6 a7 a8 a9 a10 a11 a12 a13 a14 a15
    simp only [Option.some.injEq, Prod.mk.injEq] at h
    obtain ⟨rfl, _, rfl⟩ := h
    generalize hf : ndF a0 a1 a2 a3 a4 a5 a6 a7 a8 a9 a10 a11 a12 a13 a14 a15 = f at ho
    have e : (.agg [.i .u8 k, .fl a0, .fl a1, .fl a2, .fl a3, .fl a4, .fl a5, .fl a6, .fl a7, .fl a8, .fl a9, .fl a10, .fl a11, .fl a12, .fl a13, .fl a14, .fl a15, .i .i64 0, .i .i64 0] : SV) = nodeS k f := by subst hf; rfl
    rw [e]
    refine ⟨[.agg #[.int .u8 k, .float .f64 (f 0).b, .float .f64 (f 1).b, .float .f64 (f 2).b, .float .f64 (f 3).b, .float .f64 (f 4).b, .float .f64 (f 5).b, .float .f64 (f 6).b, .float .f64 (f 7).b, .float .f64 (f 8).b, .float .f64 (f 9).b, .float .f64 (f 10).b, .float .f64 (f 11).b, .float .f64 (f 12).b, .float .f64 (f 13).b, .float .f64 (f 14).b, .float .f64 (f 15).b, .int .i64 0, .int .i64 0]], _, rfl, rfl, fun w => ?_⟩
    unfold rtOb at ho
    split at ho
    · exact calls_of_val goodG oracleCL 80 (rtRun1 KkR f) ho rfl rfl w
    · exact calls_of_val goodG oracleCL 80 (rtRun2 KkR f) ho rfl rfl w
    · exact calls_of_val goodG oracleCL 80 (rtRun3 KkR f) ho rfl rfl w
    · exact calls_of_val goodG oracleCL 80 (rtRun4 KkR f) ho rfl rfl w
    · exact absurd (ob_h ho) (by simp)
  · cases h
def OLo (o : Int → (Nat → F) → Obs) (r : I → Bool) : OracleF := lookO [(8, plainO (kRt o)), (55, plainO (kBI r))]
theorem oracleLo : OracleOk Tryz.prog (OLo rtOb rt) := .cons rtK.of (.cons irtK.of (.nil _))
def t20 : List Bool := [true, true, true, true, true, true, true, true, true, true, true, true, true, true, true, true, true, true, true, true]
end Go.Proofs.YtlhlcefkmhhmjaaGreat
namespace Bu
set_option linter.all false
open Rx Go

/-- a leaf: kind, numbers, channel, directions -/
structure Lf where
  k : Int
  f : Nat → F
  c : Int
  v : V3
  u : V3
end Bu
namespace Go.Proofs.YtlhlcefkmhhmjaaGreat
set_option linter.all false
open Go.RowKit Bu Rx

def etaF (f : Nat → F) : Nat → F := ndF (f 0) (f 1) (f 2) (f 3) (f 4) (f 5) (f 6) (f 7) (f 8) (f 9) (f 10) (f 11) (f 12) (f 13) (f 14) (f 15)
def lfOf : SV → Option Lf
  | .agg [.i .u8 k, .fl a0, .fl a1, .fl a2, .fl a3, .fl a4, .fl a5, .fl a6, .fl a7, .fl a8, .fl a9, .fl a10, .fl a11, .fl a12, .fl a13, .fl a14, .fl a15, .i .i64 0, .i .i64 0, ch, .fl p0, .fl p1, .fl p2, .fl p3, .fl p4, .fl p5, .fl r0, .fl r1, .fl r2, .fl r3, .fl r4, .fl r5] => match intS ch with
    | some (.i64, c) => some ⟨k, ndF a0 a1 a2 a3 a4 a5 a6 a7 a8 a9 a10 a11 a12 a13 a14 a15, c, ⟨⟨p0, p1⟩, ⟨p2, p3⟩, ⟨p4, p5⟩⟩, ⟨⟨r0, r1⟩, ⟨r2, r3⟩, ⟨r4, r5⟩⟩⟩
    | _ => none
  | _ => none
theorem lfOf_S (k : Int) (f : Nat → F) (c : Int) (v u : V3) : lfOf (leafS k f c v u) = some ⟨k, etaF f, c, v, u⟩ := rfl
def leafV (l : Lf) : Value := .agg #[.int .u8 l.k, .float .f64 (l.f 0).b, .float .f64 (l.f 1).b, .float .f64 (l.f 2).b, .float .f64 (l.f 3).b, .float .f64 (l.f 4).b, .float .f64 (l.f 5).b, .float .f64 (l.f 6).b, .float .f64 (l.f 7).b, .float .f64 (l.f 8).b, .float .f64 (l.f 9).b, .float .f64 (l.f 10).b, .float .f64 (l.f 11).b, .float .f64 (l.f 12).b, .float .f64 (l.f 13).b, .float .f64 (l.f 14).b, .float .f64 (l.f 15).b, .int .i64 0, .int .i64 0, .int .i64 l.c, .float .f64 l.v.x.lo.b, .float .f64 l.v.x.hi.b, .float .f64 l.v.y.lo.b, .float .f64 l.v.y.hi.b, .float .f64 l.v.z.lo.b, .float .f64 l.v.z.hi.b, .float .f64 l.u.x.lo.b, .float .f64 l.u.x.hi.b, .float .f64 l.u.y.lo.b, .float .f64 l.u.y.hi.b, .float .f64 l.u.z.lo.b, .float .f64 l.u.z.hi.b]
theorem lfOf_plain {x : SV} {l : Lf} (h : lfOf x = some l) : plains [x] = some [leafV l] := by
  unfold lfOf at h
  split at h
  · split at h
    · rename_i c hc
      simp only [Option.some.injEq] at h
      subst h
      have hp := intS_plain hc
      simp only [plains, plain, hp, Option.bind_some, Option.map_some]
      rfl
    · cases h
  · cases h
theorem leaf_pl (l : Lf) : plains [leafS l.k l.f l.c l.v l.u] = some [leafV l] ∧ plains [leafI l.k l.f l.c l.v l.u] = some [leafV l] := ⟨rfl, rfl⟩
def lfB (o : Lf → Obs) (x : SV) : Obs := match lfOf x with
  | some l => o l
  | none => [(false, true)]
def lfG (g : Lf → I × Int) (x : SV) : I × Int := match lfOf x with
  | some l => g l
  | none => (I.zero, 0)
theorem lfB_in {o : Lf → Obs} {x : SV} (h : ObsOk (lfB o x)) : ∃ l, lfOf x = some l ∧ ObsOk (o l) := by
  unfold lfB at h
  split at h
  · rename_i l e; exact ⟨l, e, h⟩
  · exact absurd (ob_h h) (by simp)
theorem kLk_of {m : FuncId} {o : Lf → Obs} (h : ∀ l, ObsOk (o l) → ∀ w, Calls Tryz.prog m #[leafV l] w fun e w' => e = .returned (.int .i64 0) ∧ Below w.heap.size w w') : PlainOk Tryz.prog m (kLk (lfB o)) := by
  intro args ds x ds' ob hk ho
  unfold kLk at hk
  split at hk
  · rename_i y
    simp only [Option.some.injEq, Prod.mk.injEq] at hk
    obtain ⟨rfl, _, rfl⟩ := hk
    obtain ⟨l, e, ol⟩ := lfB_in ho
    exact ⟨_, _, lfOf_plain e, rfl, fun w => h l ol w⟩
  · cases hk
theorem kLf_of {m : FuncId} {g : Lf → I × Int} {o : Lf → Obs} (h : ∀ l, ObsOk (o l) → ∀ w, Calls Tryz.prog m #[leafV l] w fun e w' => e = .returned (.tuple #[.agg #[.float .f64 (g l).1.lo.b, .float .f64 (g l).1.hi.b], .int .i64 (g l).2]) ∧ Below w.heap.size w w') : PlainOk Tryz.prog m (kLf (lfG g) (lfB o)) := by
  intro args ds x ds' ob hk ho
  unfold kLf at hk
  split at hk
  · rename_i y
    simp only [Option.some.injEq, Prod.mk.injEq] at hk
    obtain ⟨rfl, _, rfl⟩ := hk
    obtain ⟨l, e, ol⟩ := lfB_in ho
    refine ⟨_, _, lfOf_plain e, rfl, fun w => ?_⟩
    have e2 : lfG g y = g l := by unfold lfG; rw [e]
    rw [e2]
    exact h l ol w
  · cases hk
theorem lookRun (o : Int → (Nat → F) → Obs) (r : I → Bool) (k : Int) (f : Nat → F) (c : Int) (v u : V3) : valR ((run Tryz.prog EG (OLo o r) 80).1 27 [leafS k f c v u] [] (some t20)) = some (.i .i64 0, some [], [(decide (u.z.hi.k ≤ one64.k), true), (decide (z64.k ≤ u.z.lo.k), true), (decide (u.y.hi.k ≤ one64.k), true), (decide (mone64.k ≤ u.y.lo.k), true), (decide (u.x.hi.k ≤ one64.k), true), (decide (mone64.k ≤ u.x.lo.k), true), (r u.z, true), (r u.y, true), (r u.x, true), (decide (v.z.hi.k ≤ one64.k), true), (decide (z64.k ≤ v.z.lo.k), true), (decide (v.y.hi.k ≤ one64.k), true), (decide (mone64.k ≤ v.y.lo.k), true), (decide (v.x.hi.k ≤ one64.k), true), (decide (mone64.k ≤ v.x.lo.k), true), (r v.z, true), (r v.y, true), (r v.x, true), (decide (c < 3), true), (decide (0 ≤ c), true)] ++ (o k (etaF f) ++ [])) := by kernel_rfl
def lkOl (l : Lf) : Obs := dirO l.u ++ (dirO l.v ++ ([(decide (l.c < 3), true), (decide (0 ≤ l.c), true)] ++ rtOb l.k (etaF l.f)))
theorem lookK : PlainOk Tryz.prog 27 (kLk (lfB lkOl)) := kLk_of fun l ho w =>
  calls_of_val goodG oracleLo 80 (lookRun rtOb rt l.k l.f l.c l.v l.u) (ob_a (a := dirO l.u ++ (dirO l.v ++ [(decide (l.c < 3), true), (decide (0 ≤ l.c), true)])) (ob_a (ob_l ho) (ob_a (ob_l (ob_r ho)) (ob_l (ob_r (ob_r ho))))) (ob_a (ob_r (ob_r (ob_r ho))) ob_n)) (leaf_pl l).1 rfl w
def OMe (K : Kk) (G : Gm) : OracleF := lookO (OCL K ++ [(33, plainO (kGl G.gl)), (61, plainO (kI2 G.dl fdO)), (63, plainO (kI3 G.cd fcO)), (56, plainO (kI1 G.lb u01O)), (58, plainO (kI5 G.od orO5))])
theorem meLRun (K : Kk) (G : Gm) (k : Int) (f : Nat → F) (v u : V3) (c : Nat) (hc : c < 3) : valR ((run Tryz.prog EG (OMe K G) 80).1 28 [leafI k f c v u] [] (some [])) = some (.tup [ivS (meL G f c).1, .si .i64 (meL G f c).2], some [], u01O (pF (f c))) := by
  rcases (by omega : c = 0 ∨ c = 1 ∨ c = 2) with rfl | rfl | rfl <;> kernel_rfl
theorem meORun1 (K : Kk) (G : Gm) (k : Int) (f : Nat → F) (v u : V3) (c : Nat) (hc : c < 3) : valR ((run Tryz.prog EG (OMe K G) 80).1 29 [leafI k f c v u] [] (some [true])) = some (.tup [ivS I.zero, .si .i64 (dtK K v u).2], some [], [(neB (dtK K v u).2, true)]) := by
  rcases (by omega : c = 0 ∨ c = 1 ∨ c = 2) with rfl | rfl | rfl <;> kernel_rfl
theorem meORun0 (K : Kk) (G : Gm) (k : Int) (f : Nat → F) (v u : V3) (c : Nat) (hc : c < 3) : valR ((run Tryz.prog EG (OMe K G) 80).1 29 [leafI k f c v u] [] (some [false])) = some (.tup [ivS (G.od (pF (f c)) (pF (f 12)) v.z u.z (gt (dtK K v u).1 0)).1, .si .i64 (G.od (pF (f c)) (pF (f 12)) v.z u.z (gt (dtK K v u).1 0)).2], some [], orO5 (pF (f c)) (pF (f 12)) v.z u.z (gt (dtK K v u).1 0) ++ [(neB (dtK K v u).2, false)]) := by
  rcases (by omega : c = 0 ∨ c = 1 ∨ c = 2) with rfl | rfl | rfl <;> kernel_rfl
def mpO (G : Gm) (f : Nat → F) (v u : V3) (b : Bool) : Obs := (neB (G.gl v u (pF (f 13))).2, b) :: glO v u (pF (f 13))
def mpB (G : Gm) (f : Nat → F) (v u : V3) (b : Bool) : Obs := (neB (G.dl (G.gl v u (pF (f 13))).1.hf (pF (f 14))).2, b) :: (fdO (G.gl v u (pF (f 13))).1.hf (pF (f 14)) ++ mpO G f v u false)
theorem mePRunA (K : Kk) (G : Gm) (k : Int) (f : Nat → F) (c : Int) (v u : V3) : valR ((run Tryz.prog EG (OMe K G) 80).1 30 [leafI k f c v u] [] (some [true])) = some (.tup [ivS I.zero, .si .i64 (G.gl v u (pF (f 13))).2], some [], mpO G f v u true) := by kernel_rfl
theorem mePRunB (K : Kk) (G : Gm) (k : Int) (f : Nat → F) (c : Int) (v u : V3) : valR ((run Tryz.prog EG (OMe K G) 80).1 30 [leafI k f c v u] [] (some [false, true])) = some (.tup [ivS I.zero, .si .i64 (G.dl (G.gl v u (pF (f 13))).1.hf (pF (f 14))).2], some [], mpB G f v u true) := by kernel_rfl
def meX (K : Kk) (G : Gm) (f : Nat → F) (v u : V3) : I × Int := K.mul 0 (G.gl v u (pF (f 13))).1.v (G.dl (G.gl v u (pF (f 13))).1.hf (pF (f 14))).1
theorem mePRunC (K : Kk) (G : Gm) (k : Int) (f : Nat → F) (c : Int) (v u : V3) (b : Bool) : valR ((run Tryz.prog EG (OMe K G) 80).1 30 [leafI k f c v u] [] (some [false, false, b])) = some (.tup (bif b then [ivS I.zero, .si .i64 (meX K G f v u).2] else [ivS (meX K G f v u).1, .i .i64 0]), some [], (neB (meX K G f v u).2, b) :: mpB G f v u false) := by cases b <;> kernel_rfl
def mmB (G : Gm) (f : Nat → F) (c : Nat) (v u : V3) (b : Bool) : Obs := (neB (G.cd (G.gl v u (pF (f 13))).1.hf (pF (f (6 + c))) (pF (f (9 + c)))).2, b) :: (fcO (G.gl v u (pF (f 13))).1.hf (pF (f (6 + c))) (pF (f (9 + c))) ++ mpO G f v u false)
def meY (K : Kk) (G : Gm) (f : Nat → F) (c : Nat) (v u : V3) : I × Int := K.mul 0 (G.gl v u (pF (f 13))).1.v (G.cd (G.gl v u (pF (f 13))).1.hf (pF (f (6 + c))) (pF (f (9 + c)))).1
theorem meMRunA (K : Kk) (G : Gm) (k : Int) (f : Nat → F) (c : Int) (v u : V3) : valR ((run Tryz.prog EG (OMe K G) 80).1 31 [leafI k f c v u] [] (some [true])) = some (.tup [ivS I.zero, .si .i64 (G.gl v u (pF (f 13))).2], some [], mpO G f v u true) := by kernel_rfl
theorem meMRunB (K : Kk) (G : Gm) (k : Int) (f : Nat → F) (v u : V3) (c : Nat) (hc : c < 3) : valR ((run Tryz.prog EG (OMe K G) 80).1 31 [leafI k f c v u] [] (some [false, true])) = some (.tup [ivS I.zero, .si .i64 (G.cd (G.gl v u (pF (f 13))).1.hf (pF (f (6 + c))) (pF (f (9 + c)))).2], some [], mmB G f c v u true) := by
  rcases (by omega : c = 0 ∨ c = 1 ∨ c = 2) with rfl | rfl | rfl <;> kernel_rfl
theorem meMRunC (K : Kk) (G : Gm) (k : Int) (f : Nat → F) (v u : V3) (c : Nat) (hc : c < 3) (b : Bool) : valR ((run Tryz.prog EG (OMe K G) 80).1 31 [leafI k f c v u] [] (some [false, false, b])) = some (.tup (bif b then [ivS I.zero, .si .i64 (meY K G f c v u).2] else [ivS (meY K G f c v u).1, .i .i64 0]), some [], (neB (meY K G f c v u).2, b) :: mmB G f c v u false) := by
  rcases (by omega : c = 0 ∨ c = 1 ∨ c = 2) with rfl | rfl | rfl <;> cases b <;> kernel_rfl
end Go.Proofs.YtlhlcefkmhhmjaaGreat
