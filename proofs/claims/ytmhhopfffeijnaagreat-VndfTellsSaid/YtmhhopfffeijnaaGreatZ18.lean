/- Package vndf by the reckoner: Draw, Density. Package vndf by the reckoner: Draw and Density as known functions. -/
import Derived.Test.YtmhhopfffeijnaaGreatZ17
namespace Go.Proofs.YtmhhopfffeijnaaGreat
set_option linter.all false
open Go.RowKit Bu Rx

def ODR (K : Kk) (N : Kq) : OracleF := lookO (OCL K ++ [(6, plainO (kSC N.ib N.si N.co)), (35, plainO (kOf N.uo N.u))])
def drA0 (v : V3) (al : I) (a b : Int) : List SV := [v.sv, ivS al, .si .u64 a, .si .u64 b]
def t13 : List Bool := [true, true, true, true, true, true, true, true, true, true, true, true, true]
/-- what comes ahead of the draw of the first number -/
def drOq (N : Kq) (v : V3) (al : I) (b : Int) : Obs := (N.ib (N.uo b), true) :: (N.u b, true) :: (dirO v ++ alO al)
theorem drRunA0 (K : Kk) (N : Kq) (v : V3) (al : I) (a b : Int) : valR ((run Tryz.prog EG (ODR K N) 80).1 18 (drA0 v al a b) [] (some (t13 ++ [true, true, false]))) =
    some (.tup [V3.zero.sv, .si .i64 (evalK K drTa (drEnv N v al a b) 0).2], some [], (decide ((evalK K drTa (drEnv N v al a b) 0).2 = 0), false) :: (neB (evalK K drTa (drEnv N v al a b) 0).2, true) :: (decide ((drQ K (drEnv N v al a b)).hi.k = z64.k), true) :: drOq N v al b) := by kernel_rfl
theorem drRunA1 (K : Kk) (N : Kq) (v : V3) (al : I) (a b : Int) : valR ((run Tryz.prog EG (ODR K N) 80).1 18 (drA0 v al a b) [] (some (t13 ++ [true, false, true]))) =
    some (.tup [V3.zero.sv, .si .i64 (evalK K drA (drEnv N v al a b) 0).2], some [], (neB (evalK K drA (drEnv N v al a b) 0).2, true) :: (N.u a, true) :: (neB (evalK K drTa (drEnv N v al a b) 0).2, false) :: (decide ((drQ K (drEnv N v al a b)).hi.k = z64.k), true) :: drOq N v al b) := by kernel_rfl
theorem drRunA2 (K : Kk) (N : Kq) (v : V3) (al : I) (a b : Int) : valR ((run Tryz.prog EG (ODR K N) 80).1 18 (drA0 v al a b) [] (some (t13 ++ [true, false, false]))) =
    some (.tup [(drV K drA (drEnv N v al a b)).sv, .i .i64 0], some [], (neB (evalK K drA (drEnv N v al a b) 0).2, false) :: (N.u a, true) :: (neB (evalK K drTa (drEnv N v al a b) 0).2, false) :: (decide ((drQ K (drEnv N v al a b)).hi.k = z64.k), true) :: drOq N v al b) := by kernel_rfl
theorem drRunB0 (K : Kk) (N : Kq) (v : V3) (al : I) (a b : Int) : valR ((run Tryz.prog EG (ODR K N) 80).1 18 (drA0 v al a b) [] (some (t13 ++ [false, true, true, false]))) =
    some (.tup [V3.zero.sv, .si .i64 (evalK K drTb (drEnv N v al a b) 0).2], some [], (decide ((evalK K drTb (drEnv N v al a b) 0).2 = 0), false) :: (neB (evalK K drTb (drEnv N v al a b) 0).2, true) :: (decide (z64.k < (drQ K (drEnv N v al a b)).lo.k), true) :: (decide ((drQ K (drEnv N v al a b)).hi.k = z64.k), false) :: drOq N v al b) := by kernel_rfl
theorem drRunB1 (K : Kk) (N : Kq) (v : V3) (al : I) (a b : Int) : valR ((run Tryz.prog EG (ODR K N) 80).1 18 (drA0 v al a b) [] (some (t13 ++ [false, true, false, true]))) =
    some (.tup [V3.zero.sv, .si .i64 (evalK K drB (drEnv N v al a b) 0).2], some [], (neB (evalK K drB (drEnv N v al a b) 0).2, true) :: (N.u a, true) :: (neB (evalK K drTb (drEnv N v al a b) 0).2, false) :: (decide (z64.k < (drQ K (drEnv N v al a b)).lo.k), true) :: (decide ((drQ K (drEnv N v al a b)).hi.k = z64.k), false) :: drOq N v al b) := by kernel_rfl
theorem drRunB2 (K : Kk) (N : Kq) (v : V3) (al : I) (a b : Int) : valR ((run Tryz.prog EG (ODR K N) 80).1 18 (drA0 v al a b) [] (some (t13 ++ [false, true, false, false]))) =
    some (.tup [(drV K drB (drEnv N v al a b)).sv, .i .i64 0], some [], (neB (evalK K drB (drEnv N v al a b) 0).2, false) :: (N.u a, true) :: (neB (evalK K drTb (drEnv N v al a b) 0).2, false) :: (decide (z64.k < (drQ K (drEnv N v al a b)).lo.k), true) :: (decide ((drQ K (drEnv N v al a b)).hi.k = z64.k), false) :: drOq N v al b) := by kernel_rfl
theorem drRunN0 (K : Kk) (N : Kq) (v : V3) (al : I) (a b : Int) : valR ((run Tryz.prog EG (ODR K N) 80).1 18 (drA0 v al a b) [] (some (t13 ++ [false, false, true, false]))) =
    some (.tup [V3.zero.sv, .si .i64 (evalK K drP1 (drEnv N v al a b) 0).2], some [], (decide ((evalK K drP1 (drEnv N v al a b) 0).2 = 0), false) :: (neB (evalK K drP1 (drEnv N v al a b) 0).2, true) :: (decide (z64.k < (drQ K (drEnv N v al a b)).lo.k), false) :: (decide ((drQ K (drEnv N v al a b)).hi.k = z64.k), false) :: drOq N v al b) := by kernel_rfl
theorem drRunN1 (K : Kk) (N : Kq) (v : V3) (al : I) (a b : Int) : valR ((run Tryz.prog EG (ODR K N) 80).1 18 (drA0 v al a b) [] (some (t13 ++ [false, false, false, true]))) =
    some (.tup [V3.zero.sv, .i .i64 11], some [], (decide ((evalK K drP1 (drEnv N v al a b) 0).2 = 0), true) :: (neB (evalK K drP1 (drEnv N v al a b) 0).2, false) :: (decide (z64.k < (drQ K (drEnv N v al a b)).lo.k), false) :: (decide ((drQ K (drEnv N v al a b)).hi.k = z64.k), false) :: drOq N v al b) := by kernel_rfl
/-- alpha beyond 1 -/
theorem drRunW (K : Kk) (N : Kq) (v : V3) (al : I) (a b : Int) : valR ((run Tryz.prog EG (ODR K N) 80).1 18 (drA0 v al a b) [] (some [true, true, false, true, true, true])) =
    some (.tup [V3.zero.sv, .i .i64 2], some [], [(rt v.z, true), (rt v.y, true), (rt v.x, true), (decide (al.hi.k ≤ one64.k), false), (decide (minA.k ≤ al.lo.k), true), (rt al, true)]) := by kernel_rfl
def ODn (K : Kk) (g d : I → I → I × Int) : OracleF := lookO (OCL K ++ [(80, plainO (kGg g)), (81, plainO (kGg d))])
end Go.Proofs.YtmhhopfffeijnaaGreat
namespace Go.Proofs.YtmhhopfffeijnaaGreat
set_option linter.all false
open Go.RowKit Bu Rx

theorem oracleDR : OracleOk Tryz.prog (ODR KkR (KqR atR)) := .cons addC (.cons subC (.cons mulC (.cons divC (.cons cmax_I (.cons sqrC (.cons csqrt_I (.cons negC (.cons numC (.cons irtK.of (.cons rightG.of (.cons absG.of (.cons vwG.of (.cons piG.of (.cons scK.of (.cons unitG.of (.nil _))))))))))))))))
theorem neB_d {e : Int} : decide (e = 0) = !neB e := by unfold neB; by_cases h : e = 0 <;> simp [h]
theorem obs_cons {c b : Bool} {ob : Obs} (h : c = b) (k : ObsOk ob) : ObsOk ((c, b) :: ob) := fun q hq => by
  rcases List.mem_cons.1 hq with rfl | hq
  · exact h
  · exact k q hq
theorem pvT (V : V3) (k : Int) : plain (.tup [V.sv, .i .i64 k]) = some (.tuple #[.agg #[.float .f64 V.x.lo.b, .float .f64 V.x.hi.b, .float .f64 V.y.lo.b, .float .f64 V.y.hi.b, .float .f64 V.z.lo.b, .float .f64 V.z.hi.b], .int .i64 k]) := rfl
def vdG (K : Kk) (N : Kq) (v : V3) (al : I) (a b : Int) : V3 × Int := drR K (drEnv N v al a b)
theorem drG_of (K : Kk) (N : Kq) (hO0 : OracleOk Tryz.prog (ODR K N)) : PlainOk Tryz.prog 18 (kVd (vdG K N) (drO N)) := by
  intro args ds x ds' ob h ho
  unfold kVd at h
  split at h
  · rename_i x1 x2 y1 y2 z1 z2 g1 g2 p1 p2
    split at h
    · rename_i n m hn hm
      simp only [Option.map_eq_some_iff, Prod.mk.injEq] at h
      obtain ⟨⟨r, e, o⟩, h1, rfl, rfl, rfl⟩ := h
      have hd : r = decide (g2.k ≤ one64.k) := takeB_ok h1 fun q hq => ho q (List.mem_append_right _ hq)
      have hO := fun q (hq : q ∈ (bif r then drO N ⟨⟨x1, x2⟩, ⟨y1, y2⟩, ⟨z1, z2⟩⟩ ⟨g1, g2⟩ n m else drOw ⟨⟨x1, x2⟩, ⟨y1, y2⟩, ⟨z1, z2⟩⟩ ⟨g1, g2⟩)) => ho q (List.mem_append_left _ hq)
      generalize hv : (⟨⟨x1, x2⟩, ⟨y1, y2⟩, ⟨z1, z2⟩⟩ : V3) = v at *
      generalize hal : (⟨g1, g2⟩ : I) = al at *
      have e1 : (.agg [.fl x1, .fl x2, .fl y1, .fl y2, .fl z1, .fl z2] : SV) = v.sv := by subst hv; rfl
      have e2 : (.agg [.fl g1, .fl g2] : SV) = ivS al := by subst hal; rfl
      rw [e1, e2]
      have pv : ∀ v : V3, plain v.sv = some (.agg #[.float .f64 v.x.lo.b, .float .f64 v.x.hi.b, .float .f64 v.y.lo.b, .float .f64 v.y.hi.b, .float .f64 v.z.lo.b, .float .f64 v.z.hi.b]) := fun _ => rfl
      have hargs : plains [v.sv, ivS al, p1, p2] = some [.agg #[.float .f64 v.x.lo.b, .float .f64 v.x.hi.b, .float .f64 v.y.lo.b, .float .f64 v.y.hi.b, .float .f64 v.z.lo.b, .float .f64 v.z.hi.b], .agg #[.float .f64 al.lo.b, .float .f64 al.hi.b], .int .u64 n, .int .u64 m] :=
        plains_cons (pv v) (plains_cons rfl (plains_cons (intS_plain hn) (plains_cons (intS_plain hm) plains_nil)))
      have hal2 : al.hi.k = g2.k := by subst hal; rfl
      cases r
      · refine ⟨_, _, hargs, rfl, fun w => ?_⟩
        refine calls_of_val goodG hO0 80 (drRunW K N v al n m) (fun q hq => ?_) rfl rfl w
        simp only [List.mem_cons, List.not_mem_nil, or_false] at hq
        rcases hq with rfl | rfl | rfl | rfl | rfl | rfl
        · exact hO (_, true) (by simp [drOw])
        · exact hO (_, true) (by simp [drOw])
        · exact hO (_, true) (by simp [drOw])
        · show decide (al.hi.k ≤ one64.k) = false
          rw [hal2]; exact hd.symm
        · exact hO (_, true) (by simp [drOw])
        · exact hO (_, true) (by simp [drOw])
      · have hu : N.u n = true := hO (_, true) (by simp [drO])
        have hq0 : ObsOk (drOq N v al m) := fun q hq => hO q (by
          simp only [cond_true, drO]
          simp only [drOq, List.mem_cons] at hq
          simp only [List.cons_append, List.nil_append, List.append_assoc, List.mem_cons]
          exact .inr hq)
        have pvR : plain (.tup [(vdG K N v al n m).1.sv, .si .i64 (vdG K N v al n m).2]) = some (.tuple #[.agg #[.float .f64 (vdG K N v al n m).1.x.lo.b, .float .f64 (vdG K N v al n m).1.x.hi.b, .float .f64 (vdG K N v al n m).1.y.lo.b, .float .f64 (vdG K N v al n m).1.y.hi.b, .float .f64 (vdG K N v al n m).1.z.lo.b, .float .f64 (vdG K N v al n m).1.z.hi.b], .int .i64 (vdG K N v al n m).2]) := rfl
        refine ⟨_, _, hargs, pvR, fun w => ?_⟩
        unfold vdG drR
        have hE : drEnv N v al n m = drEnv N v al n m := rfl
        cases c1 : decide ((drQ K (drEnv N v al n m)).hi.k = z64.k)
        · cases c2 : decide (z64.k < (drQ K (drEnv N v al n m)).lo.k)
          · simp only [cond_false, drN]
            cases c3 : neB (evalK K drP1 (drEnv N v al n m) 0).2
            · simp only [cond_false]
              exact calls_of_val goodG hO0 80 (drRunN1 K N v al n m) (obs_cons (by rw [neB_d, c3]; rfl) (obs_cons c3 (obs_cons c2 (obs_cons c1 hq0)))) rfl rfl w
            · simp only [cond_true]
              exact calls_of_val goodG hO0 80 (drRunN0 K N v al n m) (obs_cons (by rw [neB_d, c3]; rfl) (obs_cons c3 (obs_cons c2 (obs_cons c1 hq0)))) rfl rfl w
          · simp only [cond_false, cond_true, drX]
            cases c3 : neB (evalK K drTb (drEnv N v al n m) 0).2
            · simp only [cond_false]
              cases c4 : neB (evalK K drB (drEnv N v al n m) 0).2
              · simp only [cond_false]
                have r := drRunB2 K N v al n m
                generalize drV K drB (drEnv N v al n m) = V at r ⊢
                exact calls_of_val goodG hO0 80 r (obs_cons c4 (obs_cons hu (obs_cons c3 (obs_cons c2 (obs_cons c1 hq0))))) rfl (pvT V 0) w
              · simp only [cond_true]
                exact calls_of_val goodG hO0 80 (drRunB1 K N v al n m) (obs_cons c4 (obs_cons hu (obs_cons c3 (obs_cons c2 (obs_cons c1 hq0))))) rfl rfl w
            · simp only [cond_true]
              exact calls_of_val goodG hO0 80 (drRunB0 K N v al n m) (obs_cons (by rw [neB_d, c3]; rfl) (obs_cons c3 (obs_cons c2 (obs_cons c1 hq0)))) rfl rfl w
        · simp only [cond_true, drX]
          cases c3 : neB (evalK K drTa (drEnv N v al n m) 0).2
          · simp only [cond_false]
            cases c4 : neB (evalK K drA (drEnv N v al n m) 0).2
            · simp only [cond_false]
              have r := drRunA2 K N v al n m
              generalize drV K drA (drEnv N v al n m) = V at r ⊢
              exact calls_of_val goodG hO0 80 r (obs_cons c4 (obs_cons hu (obs_cons c3 (obs_cons c1 hq0)))) rfl (pvT V 0) w
            · simp only [cond_true]
              exact calls_of_val goodG hO0 80 (drRunA1 K N v al n m) (obs_cons c4 (obs_cons hu (obs_cons c3 (obs_cons c1 hq0)))) rfl rfl w
          · simp only [cond_true]
            exact calls_of_val goodG hO0 80 (drRunA0 K N v al n m) (obs_cons (by rw [neB_d, c3]; rfl) (obs_cons c3 (obs_cons c1 hq0))) rfl rfl w
    · cases h
  · cases h
def vdR : V3 → I → Int → Int → V3 × Int := vdG KkR (KqR atR)
theorem drG : PlainOk Tryz.prog 18 (kVd vdR (drO (KqR atR))) := drG_of KkR (KqR atR) oracleDR
def t21 : List Bool := t13 ++ [true, true, true, true, true, true, true, true]
theorem dnRun (K : Kk) (v w : V3) (al : I) : valR ((run Tryz.prog EG (ODn K (ggR K gg1) (ggR K ggD)) 80).1 20 [v.sv, w.sv, ivS al] [] (some (t21 ++ [false, false, false]))) =
    some (.tup [ivS (gt (dnE K v w (ggR K gg1 v.z al).1 (ggR K ggD w.z al).1).1 0), .i .i64 0], some [], (neB (dnE K v w (ggR K gg1 v.z al).1 (ggR K ggD w.z al).1).2, false) :: (neB (ggR K ggD w.z al).2, false) :: (ggO w.z al ++ (neB (ggR K gg1 v.z al).2, false) :: (ggO v.z al ++ dnO v w al))) := by kernel_rfl
theorem dnRun1 (K : Kk) (v w : V3) (al : I) : valR ((run Tryz.prog EG (ODn K (ggR K gg1) (ggR K ggD)) 80).1 20 [v.sv, w.sv, ivS al] [] (some (t21 ++ [true]))) =
    some (.tup [ivS I.zero, .si .i64 (ggR K gg1 v.z al).2], some [], (neB (ggR K gg1 v.z al).2, true) :: (ggO v.z al ++ dnO v w al)) := by kernel_rfl
theorem dnRun2 (K : Kk) (v w : V3) (al : I) : valR ((run Tryz.prog EG (ODn K (ggR K gg1) (ggR K ggD)) 80).1 20 [v.sv, w.sv, ivS al] [] (some (t21 ++ [false, true]))) =
    some (.tup [ivS I.zero, .si .i64 (ggR K ggD w.z al).2], some [], (neB (ggR K ggD w.z al).2, true) :: (ggO w.z al ++ (neB (ggR K gg1 v.z al).2, false) :: (ggO v.z al ++ dnO v w al))) := by kernel_rfl
theorem dnRun3 (K : Kk) (v w : V3) (al : I) : valR ((run Tryz.prog EG (ODn K (ggR K gg1) (ggR K ggD)) 80).1 20 [v.sv, w.sv, ivS al] [] (some (t21 ++ [false, false, true]))) =
    some (.tup [ivS I.zero, .si .i64 (dnE K v w (ggR K gg1 v.z al).1 (ggR K ggD w.z al).1).2], some [], (neB (dnE K v w (ggR K gg1 v.z al).1 (ggR K ggD w.z al).1).2, true) :: (neB (ggR K ggD w.z al).2, false) :: (ggO w.z al ++ (neB (ggR K gg1 v.z al).2, false) :: (ggO v.z al ++ dnO v w al))) := by kernel_rfl
theorem oracleDn : OracleOk Tryz.prog (ODn KkR (ggR KkR gg1) (ggR KkR ggD)) := .cons addC (.cons subC (.cons mulC (.cons divC (.cons cmax_I (.cons sqrC (.cons csqrt_I (.cons negC (.cons numC (.cons irtK.of (.cons rightG.of (.cons absG.of (.cons vwG.of (.cons piG.of (.cons gg1G.of (.cons ggDG.of (.nil _))))))))))))))))
theorem dnO_gg {v w : V3} {al : I} (h : ObsOk (dnO v w al)) : ObsOk (ggO v.z al) ∧ ObsOk (ggO w.z al) := by
  have m : ∀ q ∈ dnO v w al, q.1 = q.2 := h
  constructor <;> (intro q hq; simp only [ggO, List.cons_append, List.nil_append, List.mem_cons] at hq; refine m q ?_; simp only [dnO, dirO, List.cons_append, List.nil_append, List.append_assoc, List.mem_cons]; rcases hq with rfl | rfl | rfl | hq <;> simp_all)
theorem obs_app {a b : Obs} (h : ObsOk a) (k : ObsOk b) : ObsOk (a ++ b) := fun q hq => by
  rcases List.mem_append.1 hq with hq | hq
  · exact h q hq
  · exact k q hq
theorem dnG : PlainOk Tryz.prog 20 (kDn (dnR KkR)) := by
  intro args ds x ds' ob h ho
  unfold kDn at h
  split at h
  · rename_i x1 x2 y1 y2 z1 z2 u1 u2 v1 v2 w1 w2 g1 g2
    simp only [Option.some.injEq, Prod.mk.injEq] at h
    obtain ⟨rfl, _, rfl⟩ := h
    generalize hv : (⟨⟨x1, x2⟩, ⟨y1, y2⟩, ⟨z1, z2⟩⟩ : V3) = v at *
    generalize hw : (⟨⟨u1, u2⟩, ⟨v1, v2⟩, ⟨w1, w2⟩⟩ : V3) = u at *
    generalize hal : (⟨g1, g2⟩ : I) = al at *
    have e1 : (.agg [.fl x1, .fl x2, .fl y1, .fl y2, .fl z1, .fl z2] : SV) = v.sv := by subst hv; rfl
    have e2 : (.agg [.fl u1, .fl u2, .fl v1, .fl v2, .fl w1, .fl w2] : SV) = u.sv := by subst hw; rfl
    have e3 : (.agg [.fl g1, .fl g2] : SV) = ivS al := by subst hal; rfl
    rw [e1, e2, e3]
    obtain ⟨o1, o2⟩ := dnO_gg ho
    have hargs : plains [v.sv, u.sv, ivS al] = some [.agg #[.float .f64 v.x.lo.b, .float .f64 v.x.hi.b, .float .f64 v.y.lo.b, .float .f64 v.y.hi.b, .float .f64 v.z.lo.b, .float .f64 v.z.hi.b], .agg #[.float .f64 u.x.lo.b, .float .f64 u.x.hi.b, .float .f64 u.y.lo.b, .float .f64 u.y.hi.b, .float .f64 u.z.lo.b, .float .f64 u.z.hi.b], .agg #[.float .f64 al.lo.b, .float .f64 al.hi.b]] := rfl
    refine ⟨_, _, hargs, rfl, fun w => ?_⟩
    unfold dnR
    have r0 := dnRun KkR v u al
    have r1 := dnRun1 KkR v u al
    have r2 := dnRun2 KkR v u al
    have r3 := dnRun3 KkR v u al
    generalize dnE KkR v u (ggR KkR gg1 v.z al).1 (ggR KkR ggD u.z al).1 = E at *
    cases c1 : neB (ggR KkR gg1 v.z al).2
    · simp only [cond_false]
      cases c2 : neB (ggR KkR ggD u.z al).2
      · simp only [cond_false]
        cases c3 : neB E.2
        · simp only [cond_false]
          generalize gt E.1 0 = V at *
          exact calls_of_val goodG oracleDn 80 r0 (obs_cons c3 (obs_cons c2 (obs_app o2 (obs_cons c1 (obs_app o1 ho))))) rfl rfl w
        · simp only [cond_true]
          exact calls_of_val goodG oracleDn 80 r3 (obs_cons c3 (obs_cons c2 (obs_app o2 (obs_cons c1 (obs_app o1 ho))))) rfl rfl w
      · simp only [cond_true]
        exact calls_of_val goodG oracleDn 80 r2 (obs_cons c2 (obs_app o2 (obs_cons c1 (obs_app o1 ho)))) rfl rfl w
    · simp only [cond_true]
      exact calls_of_val goodG oracleDn 80 r1 (obs_cons c1 (obs_app o1 ho)) rfl rfl w
  · cases h
end Go.Proofs.YtmhhopfffeijnaaGreat
