/- pairs.Value as a known function. pairs.Value and pairs.Density as known functions. pairs.Density as a known function. What leaves send, plain: gloss. Oren's value, plain: a slope, then one line. -/
import Derived.Test.YtlhlcefkmhhmjaaGreatZ22
namespace Bu
set_option linter.all false
open Rx Go

theorem dt_in {v u : V3} (h : (dtK KkR v u).2 = 0) : ObsOk (bndO (gt (dtK KkR v u).1 0) mone64 one64) := by
  obtain ⟨_, k⟩ := eval_chain h
  unfold dtK at *
  generalize (evalK KkR dtP [u.z, u.y, u.x, v.z, v.y, v.x] 0).1 = r at *
  obtain ⟨p1, hp1, p2, hp2, s1, hs1, p3, hp3, s2, hs2, dot, hdot, hend⟩ := k
  subst hend
  have zk : mone64.k ≤ one64.k := by decide +kernel
  have r2 : rt s2 = true := dn_up hs2.1 hs2.2 (by
    have a : rt s1 = true := dn_up hs1.1 hs1.2 (by
      have b : rt p1 = true := AllR.rt hp1
      have c : rt p2 = true := AllR.rt hp2
      have := rt_le b; have := rt_le c
      show p1.lo.q + p2.lo.q ≤ p1.hi.q + p2.hi.q
      grind)
    have d : rt p3 = true := AllR.rt hp3
    have := rt_le a; have := rt_le d
    show s1.lo.q + p3.lo.q ≤ s1.hi.q + p3.hi.q
    grind)
  have hd : dot = keptI s2 mone64 one64 := hdot
  show ObsOk (bndO dot mone64 one64)
  rw [hd]
  obtain ⟨e1, e2⟩ := keptI_k s2 mone64 one64
  exact ob_c (decide_eq_true (by rw [e2]; omega)) (ob_c (decide_eq_true (by rw [e1]; omega)) (ob_c (keptI_rt r2) ob_n))
end Bu
namespace Go.Proofs.YtlhlcefkmhhmjaaGreat
set_option linter.all false
open Go.RowKit Bu Rx

def GmR : Gm := ⟨glR KkR GlR, fun c n => lnR (fdK KkR c n) 0, fun c m n => lnR (fcK KkR c m n) 0, fun r => lnR (lbK KkR r) 0, orR KkR⟩
theorem gl_half {v u : V3} {al : I} (h : neB (glR KkR GlR v u al).2 = false) : ObsOk (u01O (glR KkR GlR v u al).1.hf) := by
  unfold glR at h ⊢
  cases c : neB (glErr KkR GlR v u al)
  · rw [cond_false]
    have e : (GlR.H v u).2 = 0 := by
      unfold glErr at c
      cases c2 : neB (GlR.H v u).2
      · exact neB_0 c2
      · rw [c2, cond_true, c2] at c; cases c
    have k := (hl_in (v := v) (u := u) e).2
    show ObsOk (u01O (lnR (GlR.H v u) 3).1)
    unfold lnR
    rw [show neB (GlR.H v u).2 = false by rw [e]; rfl]
    exact k
  · rw [c, cond_true, c] at h; cases h
theorem oracleOOr : OracleOk Tryz.prog (OOr KkR) :=
  .cons addC <| .cons subC <| .cons mulC <| .cons divC <| .cons cmax_I <| .cons sqrC <| .cons csqrt_I <|
  .cons numC <| .cons irtK.of <| .cons rightG.of <| .cons absG.of <| .cons vwG.of <| .cons piG.of <| .cons hullG.of <| .nil _
theorem orO_ok {r s i o d : I} (h : ObsOk (orO5 r s i o d)) : ObsOk (orOb r s i o d) := by
  have a := ob_l h; have b := ob_l (ob_r h); have c := ob_l (ob_r (ob_r h)); have e := ob_l (ob_r (ob_r (ob_r h))); have g := ob_r (ob_r (ob_r (ob_r h)))
  have two : ∀ {x : I} {l : F} {p : Obs}, ObsOk (bndO x l one64) → ObsOk p → ObsOk ((decide (one64.k < x.hi.k), false) :: (decide (x.lo.k < l.k), false) :: p) := fun h k => ob_c (not_lt (ob_h h)) (ob_c (not_lt (ob_h (ob_t h))) k)
  have rr : ∀ {x : I} {l : F}, ObsOk (bndO x l one64) → rt x = true := fun h => ob_h (ob_t (ob_t h))
  exact two g (two e (two c (two b (two a (ob_c (rr g) (ob_c (rr e) (ob_c (rr c) (ob_c (rr b) (ob_c (rr a) ob_n)))))))))
theorem orG_of (K : Kk) (hO : OracleOk Tryz.prog (OOr K)) : PlainOk Tryz.prog 58 (kI5 (orR K) orO5) := by
  intro args ds x ds' ob h hob
  unfold kI5 at h
  split at h
  · rename_i a b c d e g hh i j k
    simp only [Option.some.injEq, Prod.mk.injEq] at h
    obtain ⟨rfl, _, rfl⟩ := h
    refine ⟨[.agg #[.float .f64 a.b, .float .f64 b.b], .agg #[.float .f64 c.b, .float .f64 d.b], .agg #[.float .f64 e.b, .float .f64 g.b], .agg #[.float .f64 hh.b, .float .f64 i.b], .agg #[.float .f64 j.b, .float .f64 k.b]], _, rfl, rfl, fun w => ?_⟩
    have o := orO_ok hob
    have rA := orRunA K ⟨a, b⟩ ⟨c, d⟩ ⟨e, g⟩ ⟨hh, i⟩ ⟨j, k⟩ (neB (orE K orA ⟨a, b⟩ ⟨c, d⟩ ⟨e, g⟩ ⟨hh, i⟩ ⟨j, k⟩).2)
    have rB := orRunB K ⟨a, b⟩ ⟨c, d⟩ ⟨e, g⟩ ⟨hh, i⟩ ⟨j, k⟩ (neB (orE K orB ⟨a, b⟩ ⟨c, d⟩ ⟨e, g⟩ ⟨hh, i⟩ ⟨j, k⟩).2)
    have rC := orRunC K ⟨a, b⟩ ⟨c, d⟩ ⟨e, g⟩ ⟨hh, i⟩ ⟨j, k⟩ (neB (orE K orC ⟨a, b⟩ ⟨c, d⟩ ⟨e, g⟩ ⟨hh, i⟩ ⟨j, k⟩).2)
    unfold orR
    generalize orE K orA ⟨a, b⟩ ⟨c, d⟩ ⟨e, g⟩ ⟨hh, i⟩ ⟨j, k⟩ = A at *
    generalize orE K orB ⟨a, b⟩ ⟨c, d⟩ ⟨e, g⟩ ⟨hh, i⟩ ⟨j, k⟩ = B at *
    generalize orE K orC ⟨a, b⟩ ⟨c, d⟩ ⟨e, g⟩ ⟨hh, i⟩ ⟨j, k⟩ = C at *
    unfold lnR
    cases q1 : decide ((orQ K ⟨e, g⟩ ⟨hh, i⟩ ⟨j, k⟩).hi.k ≤ z64.k)
    · cases q2 : decide (z64.k ≤ (orQ K ⟨e, g⟩ ⟨hh, i⟩ ⟨j, k⟩).lo.k)
      · cases q : neB C.2 <;> rw [q] at rC <;> exact calls_of_val goodG hO 80 rC (ob_c rfl (ob_c q2 (ob_c q1 o))) rfl rfl w
      · cases q : neB B.2 <;> rw [q] at rB <;> exact calls_of_val goodG hO 80 rB (ob_c rfl (ob_c q2 (ob_c q1 o))) rfl rfl w
    · cases q : neB A.2 <;> rw [q] at rA <;> exact calls_of_val goodG hO 80 rA (ob_c rfl (ob_c q1 o)) rfl rfl w
  · cases h
theorem orG : PlainOk Tryz.prog 58 (kI5 (orR KkR) orO5) := orG_of KkR oracleOOr
set_option maxRecDepth 100000 in
theorem oracleMe : OracleOk Tryz.prog (OMe KkR GmR) :=
  .cons addC <| .cons subC <| .cons mulC <| .cons divC <| .cons cmax_I <| .cons sqrC <| .cons csqrt_I <|
  .cons numC <| .cons irtK.of <| .cons rightG.of <| .cons absG.of <| .cons vwG.of <| .cons piG.of <| .cons glG.of <| .cons fdG.of <| .cons fcG.of <| .cons lbG.of <| .cons orG.of <| .nil _
def chO (l : Lf) : Obs := [(decide (l.c < 3), true), (decide (0 ≤ l.c), true)]
def olL (l : Lf) : Obs := chO l ++ u01O (pF (l.f l.c.toNat))
def olO (l : Lf) : Obs := chO l ++ (bndO (pF (l.f l.c.toNat)) z64 one64 ++ (bndO (pF (l.f 12)) z64 one64 ++ (dirO l.v ++ dirO l.u)))
def olP (l : Lf) : Obs := glO l.v l.u (pF (l.f 13)) ++ bndO (pF (l.f 14)) minIo four64
def olM (l : Lf) : Obs := chO l ++ (glO l.v l.u (pF (l.f 13)) ++ (bndO (pF (l.f (6 + l.c.toNat))) minMt maxMt ++ bndO (pF (l.f (9 + l.c.toNat))) minMt maxMt))
theorem ch_in {l : Lf} (h : ObsOk (chO l)) : ∃ c : Nat, c < 3 ∧ l.c = (c : Int) := by
  have a := of_decide_eq_true (ob_h h)
  have b := of_decide_eq_true (ob_h (ob_t h))
  obtain ⟨c, e⟩ := Int.eq_ofNat_of_zero_le b
  exact ⟨c, by omega, e⟩
theorem plIt (a : I) (k : Int) : plain (.tup [ivS a, .si .i64 k]) = some (.tuple #[.agg #[.float .f64 a.lo.b, .float .f64 a.hi.b], .int .i64 k]) ∧ plain (.tup [ivS a, .i .i64 k]) = some (.tuple #[.agg #[.float .f64 a.lo.b, .float .f64 a.hi.b], .int .i64 k]) := ⟨rfl, rfl⟩
theorem lambK_of (K : Kk) (G : Gm) (hO : OracleOk Tryz.prog (OMe K G)) : PlainOk Tryz.prog 28 (kLf (lfG fun l => meL G l.f l.c.toNat) (lfB olL)) := kLf_of fun l ho w => by
  obtain ⟨k, f, c, v, u⟩ := l
  obtain ⟨n, hn, e⟩ := ch_in (ob_l ho)
  simp only at e
  subst e
  exact calls_of_val goodG hO 80 (meLRun K G k f v u n hn) (ob_r ho) (leaf_pl ⟨k, f, n, v, u⟩).2 (plIt _ _).1 w
theorem lambK : PlainOk Tryz.prog 28 (kLf (lfG fun l => meL GmR l.f l.c.toNat) (lfB olL)) := lambK_of KkR GmR oracleMe
theorem orenK_of (K : Kk) (G : Gm) (hO : OracleOk Tryz.prog (OMe K G)) (hD : ∀ v u, (dtK K v u).2 = 0 → ObsOk (bndO (gt (dtK K v u).1 0) mone64 one64)) : PlainOk Tryz.prog 29 (kLf (lfG fun l => meO K G l.f l.c.toNat l.v l.u) (lfB olO)) := kLf_of fun l ho w => by
  obtain ⟨k, f, c, v, u⟩ := l
  obtain ⟨n, hn, e⟩ := ch_in (ob_l ho)
  simp only at e
  subst e
  have r0 := meORun0 K G k f v u n hn
  have r1 := meORun1 K G k f v u n hn
  show Calls _ _ _ _ fun e w' => e = .returned (.tuple #[.agg #[.float .f64 (meO K G f n v u).1.lo.b, .float .f64 (meO K G f n v u).1.hi.b], .int .i64 (meO K G f n v u).2]) ∧ _
  unfold meO
  cases q : neB (dtK K v u).2
  · have hd := hD v u (neB_0 q)
    have o : ObsOk (orO5 (pF (f n)) (pF (f 12)) v.z u.z (gt (dtK K v u).1 0) ++ [(neB (dtK K v u).2, false)]) :=
      ob_a (ob_a (ob_l (ob_r ho)) (ob_a (ob_l (ob_r (ob_r ho))) (ob_a (dir_z (ob_l (ob_r (ob_r (ob_r ho))))) (ob_a (dir_z (ob_r (ob_r (ob_r (ob_r ho))))) hd)))) (ob_c q ob_n)
    exact calls_of_val goodG hO 80 r0 o (leaf_pl ⟨k, f, n, v, u⟩).2 (plIt _ _).1 w
  · exact calls_of_val goodG hO 80 r1 (ob_c q ob_n) (leaf_pl ⟨k, f, n, v, u⟩).2 (plIt _ _).1 w
theorem orenK : PlainOk Tryz.prog 29 (kLf (lfG fun l => meO KkR GmR l.f l.c.toNat l.v l.u) (lfB olO)) := orenK_of KkR GmR oracleMe (fun v u h => dt_in h)
theorem plasK_of (K : Kk) (G : Gm) (hO : OracleOk Tryz.prog (OMe K G)) (hG : ∀ v u al, neB (G.gl v u al).2 = false → ObsOk (u01O (G.gl v u al).1.hf)) : PlainOk Tryz.prog 30 (kLf (lfG fun l => meP K G l.f l.v l.u) (lfB olP)) := kLf_of fun l ho w => by
  obtain ⟨k, f, c, v, u⟩ := l
  have rA := mePRunA K G k f c v u
  have rB := mePRunB K G k f c v u
  have rC := mePRunC K G k f c v u (neB (meX K G f v u).2)
  show Calls _ _ _ _ fun e w' => e = .returned (.tuple #[.agg #[.float .f64 (meP K G f v u).1.lo.b, .float .f64 (meP K G f v u).1.hi.b], .int .i64 (meP K G f v u).2]) ∧ _
  have og : ObsOk (glO v u (pF (f 13))) := ob_l ho
  unfold meP glM
  cases q1 : neB (G.gl v u (pF (f 13))).2
  · have hh : ObsOk (u01O (G.gl v u (pF (f 13))).1.hf) := hG _ _ _ q1
    have oB : ∀ t, neB (G.dl (G.gl v u (pF (f 13))).1.hf (pF (f 14))).2 = t → ObsOk (mpB G f v u t) := fun t ht => ob_c ht (ob_a (ob_a (ob_r ho) hh) (ob_c q1 og))
    cases q2 : neB (G.dl (G.gl v u (pF (f 13))).1.hf (pF (f 14))).2
    · have e : K.mul 0 (G.gl v u (pF (f 13))).1.v (G.dl (G.gl v u (pF (f 13))).1.hf (pF (f 14))).1 = meX K G f v u := rfl
      simp only [cond_false]
      rw [e]
      generalize meX K G f v u = X at *
      cases q3 : neB X.2 <;> rw [q3] at rC
      · exact calls_of_val goodG hO 80 rC (ob_c rfl (oB _ q2)) (leaf_pl ⟨k, f, c, v, u⟩).2 (plIt _ _).2 w
      · exact calls_of_val goodG hO 80 rC (ob_c rfl (oB _ q2)) (leaf_pl ⟨k, f, c, v, u⟩).2 (plIt _ _).1 w
    · exact calls_of_val goodG hO 80 rB (oB _ q2) (leaf_pl ⟨k, f, c, v, u⟩).2 (plIt _ _).1 w
  · exact calls_of_val goodG hO 80 rA (ob_c q1 og) (leaf_pl ⟨k, f, c, v, u⟩).2 (plIt _ _).1 w
theorem plasK : PlainOk Tryz.prog 30 (kLf (lfG fun l => meP KkR GmR l.f l.v l.u) (lfB olP)) := plasK_of KkR GmR oracleMe (fun v u al h => gl_half h)
theorem metaK_of (K : Kk) (G : Gm) (hO : OracleOk Tryz.prog (OMe K G)) (hG : ∀ v u al, neB (G.gl v u al).2 = false → ObsOk (u01O (G.gl v u al).1.hf)) : PlainOk Tryz.prog 31 (kLf (lfG fun l => meM K G l.f l.c.toNat l.v l.u) (lfB olM)) := kLf_of fun l ho w => by
  obtain ⟨k, f, c, v, u⟩ := l
  obtain ⟨n, hn, e⟩ := ch_in (ob_l ho)
  simp only at e
  subst e
  have rA := meMRunA K G k f n v u
  have rB := meMRunB K G k f v u n hn
  have rC := meMRunC K G k f v u n hn (neB (meY K G f n v u).2)
  show Calls _ _ _ _ fun e w' => e = .returned (.tuple #[.agg #[.float .f64 (meM K G f n v u).1.lo.b, .float .f64 (meM K G f n v u).1.hi.b], .int .i64 (meM K G f n v u).2]) ∧ _
  have og : ObsOk (glO v u (pF (f 13))) := ob_l (ob_r ho)
  unfold meM glM
  cases q1 : neB (G.gl v u (pF (f 13))).2
  · have hh : ObsOk (u01O (G.gl v u (pF (f 13))).1.hf) := hG _ _ _ q1
    have oB : ∀ t, neB (G.cd (G.gl v u (pF (f 13))).1.hf (pF (f (6 + n))) (pF (f (9 + n)))).2 = t → ObsOk (mmB G f n v u t) := fun t ht => ob_c ht (ob_a (ob_a (ob_r (ob_r (ob_r ho))) (ob_a (ob_l (ob_r (ob_r ho))) hh)) (ob_c q1 og))
    cases q2 : neB (G.cd (G.gl v u (pF (f 13))).1.hf (pF (f (6 + n))) (pF (f (9 + n)))).2
    · have e : K.mul 0 (G.gl v u (pF (f 13))).1.v (G.cd (G.gl v u (pF (f 13))).1.hf (pF (f (6 + n))) (pF (f (9 + n)))).1 = meY K G f n v u := rfl
      simp only [cond_false]
      rw [e]
      generalize meY K G f n v u = X at *
      cases q3 : neB X.2 <;> rw [q3] at rC
      · exact calls_of_val goodG hO 80 rC (ob_c rfl (oB _ q2)) (leaf_pl ⟨k, f, n, v, u⟩).2 (plIt _ _).2 w
      · exact calls_of_val goodG hO 80 rC (ob_c rfl (oB _ q2)) (leaf_pl ⟨k, f, n, v, u⟩).2 (plIt _ _).1 w
    · exact calls_of_val goodG hO 80 rB (oB _ q2) (leaf_pl ⟨k, f, n, v, u⟩).2 (plIt _ _).1 w
  · exact calls_of_val goodG hO 80 rA (ob_c q1 og) (leaf_pl ⟨k, f, n, v, u⟩).2 (plIt _ _).1 w
theorem metaK : PlainOk Tryz.prog 31 (kLf (lfG fun l => meM KkR GmR l.f l.c.toNat l.v l.u) (lfB olM)) := metaK_of KkR GmR oracleMe (fun v u al h => gl_half h)
end Go.Proofs.YtlhlcefkmhhmjaaGreat
namespace Go.Proofs.YtlhlcefkmhhmjaaGreat
set_option linter.all false
open Go.RowKit Bu Rx

section
variable (L : Lfs) (k : Int) (f : Nat → F) (c : Int) (v u : V3) (r : Nat)
theorem va7_1 : (runOps Tryz.prog EG (run Tryz.prog EG (OVl L 28) 60).1 (opsOf vR6) ((opsOf vR6).toList.drop 4) (vsL L 28 k f c v u r)).isSome = true := by kernel_rfl
theorem va8_1 : exO Tryz.prog EG (OVl L 28) 60 vT (vs7 L 28 k f c v u r) .ret := by unfold exO; kernel_rfl
theorem vb7_1 : (vs7 L 28 k f c v u r).ob = L.o (leafS k f c v u) ++ (L.lk (leafS k f c v u) ++ []) := by kernel_rfl
theorem vb8_1 : (vs8 L 28 k f c v u r).ob = L.o (leafS k f c v u) ++ (L.lk (leafS k f c v u) ++ []) := by kernel_rfl
theorem vrs_1 : resultS Tryz.prog Tryz.f9 (vs8 L 28 k f c v u r) = some (.tup [ivS (L.g (leafS k f c v u)).1, .si .i64 (L.g (leafS k f c v u)).2]) := by kernel_rfl
theorem va7_2 : (runOps Tryz.prog EG (run Tryz.prog EG (OVl L 29) 60).1 (opsOf vR6) ((opsOf vR6).toList.drop 4) (vsL L 29 k f c v u r)).isSome = true := by kernel_rfl
theorem va8_2 : exO Tryz.prog EG (OVl L 29) 60 vT (vs7 L 29 k f c v u r) .ret := by unfold exO; kernel_rfl
theorem vb7_2 : (vs7 L 29 k f c v u r).ob = L.o (leafS k f c v u) ++ (L.lk (leafS k f c v u) ++ []) := by kernel_rfl
theorem vb8_2 : (vs8 L 29 k f c v u r).ob = L.o (leafS k f c v u) ++ (L.lk (leafS k f c v u) ++ []) := by kernel_rfl
theorem vrs_2 : resultS Tryz.prog Tryz.f9 (vs8 L 29 k f c v u r) = some (.tup [ivS (L.g (leafS k f c v u)).1, .si .i64 (L.g (leafS k f c v u)).2]) := by kernel_rfl
theorem va7_3 : (runOps Tryz.prog EG (run Tryz.prog EG (OVl L 30) 60).1 (opsOf vR6) ((opsOf vR6).toList.drop 4) (vsL L 30 k f c v u r)).isSome = true := by kernel_rfl
theorem va8_3 : exO Tryz.prog EG (OVl L 30) 60 vT (vs7 L 30 k f c v u r) .ret := by unfold exO; kernel_rfl
theorem vb7_3 : (vs7 L 30 k f c v u r).ob = L.o (leafS k f c v u) ++ (L.lk (leafS k f c v u) ++ []) := by kernel_rfl
theorem vb8_3 : (vs8 L 30 k f c v u r).ob = L.o (leafS k f c v u) ++ (L.lk (leafS k f c v u) ++ []) := by kernel_rfl
theorem vrs_3 : resultS Tryz.prog Tryz.f9 (vs8 L 30 k f c v u r) = some (.tup [ivS (L.g (leafS k f c v u)).1, .si .i64 (L.g (leafS k f c v u)).2]) := by kernel_rfl
theorem va7_4 : (runOps Tryz.prog EG (run Tryz.prog EG (OVl L 31) 60).1 (opsOf vR6) ((opsOf vR6).toList.drop 4) (vsL L 31 k f c v u r)).isSome = true := by kernel_rfl
theorem va8_4 : exO Tryz.prog EG (OVl L 31) 60 vT (vs7 L 31 k f c v u r) .ret := by unfold exO; kernel_rfl
theorem vb7_4 : (vs7 L 31 k f c v u r).ob = L.o (leafS k f c v u) ++ (L.lk (leafS k f c v u) ++ []) := by kernel_rfl
theorem vb8_4 : (vs8 L 31 k f c v u r).ob = L.o (leafS k f c v u) ++ (L.lk (leafS k f c v u) ++ []) := by kernel_rfl
theorem vrs_4 : resultS Tryz.prog Tryz.f9 (vs8 L 31 k f c v u r) = some (.tup [ivS (L.g (leafS k f c v u)).1, .si .i64 (L.g (leafS k f c v u)).2]) := by kernel_rfl
end
theorem vl_of {L : Lfs} {m : FuncId} {k : Int} {g : Lf → I × Int} {o : Lf → Obs} (hL : L = ⟨lfB lkOl, lfG g, lfB o⟩) (hm : PlainOk Tryz.prog m (kLf (lfG g) (lfB o))) : OracleOk Tryz.prog (OVl L m) := by
  subst hL
  exact .cons lookK.of (.cons hm.of (.nil _))
def vaOf : List SV → Option Lf
  | [.agg [.i .u8 k, .fl a0, .fl a1, .fl a2, .fl a3, .fl a4, .fl a5, .fl a6, .fl a7, .fl a8, .fl a9, .fl a10, .fl a11, .fl a12, .fl a13, .fl a14, .fl a15, .i .i64 0, .i .i64 0], ch, .agg [.fl p0, .fl p1, .fl p2, .fl p3, .fl p4, .fl p5], .agg [.fl r0, .fl r1, .fl r2, .fl r3, .fl r4, .fl r5]] => match intS ch with
    | some (.i64, c) => some ⟨k, ndF a0 a1 a2 a3 a4 a5 a6 a7 a8 a9 a10 a11 a12 a13 a14 a15, c, ⟨⟨p0, p1⟩, ⟨p2, p3⟩, ⟨p4, p5⟩⟩, ⟨⟨r0, r1⟩, ⟨r2, r3⟩, ⟨r4, r5⟩⟩⟩
    | _ => none
  | _ => none
theorem vaOf_plain {l : List SV} {x : Lf} (h : vaOf l = some x) : etaF x.f = x.f ∧ ∃ vs, plains l = some vs ∧ plains (vArgs x.k x.f x.c x.v x.u) = some vs := by
  unfold vaOf at h
  split at h
  · split at h
    · rename_i c hc
      simp only [Option.some.injEq] at h
      subst h
      have hp := intS_plain hc
      refine ⟨rfl, _, ?_, rfl⟩
      simp only [plains, plain, hp, Option.bind_some, Option.map_some]
      rfl
    · cases h
  · cases h
def vlG (G : Gm) (K : Kk) (l : Lf) : I × Int := match l.k with
  | 1 => meL G l.f l.c.toNat
  | 2 => meO K G l.f l.c.toNat l.v l.u
  | 3 => meP K G l.f l.v l.u
  | 4 => meM K G l.f l.c.toNat l.v l.u
  | _ => (I.zero, 0)
def vlO (l : Lf) : Obs := lkOl l ++ match l.k with
  | 1 => olL l
  | 2 => olO l
  | 3 => olP l
  | 4 => olM l
  | _ => [(false, true)]
def kVal (g : Lf → I × Int) (o : Lf → Obs) (args : List SV) (ds : Dec) : Option (SV × Dec × Obs) := match vaOf args with
  | some l => some (.tup [.agg [.fl (g l).1.lo, .fl (g l).1.hi], .si .i64 (g l).2], ds, o l)
  | none => none
theorem valK : PlainOk Tryz.prog 9 (kVal (vlG GmR KkR) vlO) := by
  intro args ds x ds' ob h ho
  unfold kVal at h
  split at h
  · rename_i l e
    simp only [Option.some.injEq, Prod.mk.injEq] at h
    obtain ⟨rfl, _, rfl⟩ := h
    obtain ⟨hf, vs, h1, h2⟩ := vaOf_plain e
    obtain ⟨k, f, c, v, u⟩ := l
    simp only at hf h2
    refine ⟨vs, _, h1, rfl, fun w => ?_⟩
    have hlk : ObsOk (lfB lkOl (leafS k f c v u)) := by unfold lfB; rw [lfOf_S, hf]; exact ob_l ho
    have go : ∀ {m : FuncId} {g : Lf → I × Int} {o : Lf → Obs} (hm : PlainOk Tryz.prog m (kLf (lfG g) (lfB o))) (hwf : (Lit.int .u8 k).wf = true)
        (hat : (tabD 28 29 30 31).atKey (.int .u8 k) (.lit (.bool false)) = .lit (.int .i64 (m : Int)))
        (a7 : ∀ (L : Lfs) r, (runOps Tryz.prog EG (run Tryz.prog EG (OVl L m) 60).1 (opsOf vR6) ((opsOf vR6).toList.drop 4) (vsL L m k f c v u r)).isSome = true)
        (a8 : ∀ (L : Lfs) r, exO Tryz.prog EG (OVl L m) 60 vT (vs7 L m k f c v u r) .ret)
        (b7 : ∀ (L : Lfs) r, (vs7 L m k f c v u r).ob = L.o (leafS k f c v u) ++ (L.lk (leafS k f c v u) ++ []))
        (b8 : ∀ (L : Lfs) r, (vs8 L m k f c v u r).ob = L.o (leafS k f c v u) ++ (L.lk (leafS k f c v u) ++ []))
        (rs : ∀ (L : Lfs) r, resultS Tryz.prog Tryz.f9 (vs8 L m k f c v u r) = some (.tup [ivS (L.g (leafS k f c v u)).1, .si .i64 (L.g (leafS k f c v u)).2]))
        (hob : ObsOk (o ⟨k, f, c, v, u⟩)) (he : vlG GmR KkR ⟨k, f, c, v, u⟩ = g ⟨k, f, c, v, u⟩),
        Calls Tryz.prog 9 vs.toArray w fun e w' => e = .returned (.tuple #[.agg #[.float .f64 (vlG GmR KkR ⟨k, f, c, v, u⟩).1.lo.b, .float .f64 (vlG GmR KkR ⟨k, f, c, v, u⟩).1.hi.b], .int .i64 (vlG GmR KkR ⟨k, f, c, v, u⟩).2]) ∧ Below w.heap.size w w' := by
      intro m g o hm hwf hat a7 a8 b7 b8 rs hob he
      have q := value_of (L := ⟨lfB lkOl, lfG g, lfB o⟩) (g := m) (k := k) f c v u (vl_of (k := k) rfl hm) hwf hat (a7 _) (a8 _) (b7 _) (b8 _) (rs _) hlk (by show ObsOk (lfB o (leafS k f c v u)); unfold lfB; rw [lfOf_S, hf]; exact hob) h2 w
      have eg : lfG g (leafS k f c v u) = g ⟨k, f, c, v, u⟩ := by unfold lfG; rw [lfOf_S, hf]
      rw [he, ← eg]
      exact q
    have ho2 := ob_r ho
    split at ho2
    · rename_i q; simp only at q; subst q
      exact go lambK rfl (tab_at _ _ _ _).1 (fun L r => va7_1 L 1 f c v u r) (fun L r => va8_1 L 1 f c v u r) (fun L r => vb7_1 L 1 f c v u r) (fun L r => vb8_1 L 1 f c v u r) (fun L r => vrs_1 L 1 f c v u r) ho2 rfl
    · rename_i q; simp only at q; subst q
      exact go orenK rfl (tab_at _ _ _ _).2.1 (fun L r => va7_2 L 2 f c v u r) (fun L r => va8_2 L 2 f c v u r) (fun L r => vb7_2 L 2 f c v u r) (fun L r => vb8_2 L 2 f c v u r) (fun L r => vrs_2 L 2 f c v u r) ho2 rfl
    · rename_i q; simp only at q; subst q
      exact go plasK rfl (tab_at _ _ _ _).2.2.1 (fun L r => va7_3 L 3 f c v u r) (fun L r => va8_3 L 3 f c v u r) (fun L r => vb7_3 L 3 f c v u r) (fun L r => vb8_3 L 3 f c v u r) (fun L r => vrs_3 L 3 f c v u r) ho2 rfl
    · rename_i q; simp only at q; subst q
      exact go metaK rfl (tab_at _ _ _ _).2.2.2 (fun L r => va7_4 L 4 f c v u r) (fun L r => va8_4 L 4 f c v u r) (fun L r => vb7_4 L 4 f c v u r) (fun L r => vb8_4 L 4 f c v u r) (fun L r => vrs_4 L 4 f c v u r) ho2 rfl
    · exact absurd (ob_h ho2) (by simp)
  · cases h
end Go.Proofs.YtlhlcefkmhhmjaaGreat
namespace Go.Proofs.YtlhlcefkmhhmjaaGreat
set_option linter.all false
open Go.RowKit Bu Rx

noncomputable def ODy (lk : SV → Obs) (G : Gm) : OracleF := lookO [(27, plainO (kLk lk)), (56, plainO (kI1 G.lb u01O)), (33, plainO (kGl G.gl))]
theorem deRun1 (lk : SV → Obs) (G : Gm) (f : Nat → F) (v u : V3) : valR ((run Tryz.prog EG (ODy lk G) 80).1 10 [nodeS 1 f, v.sv, u.sv] [] (some [])) = some (.tup [ivS (G.lb v.z).1, .si .i64 (G.lb v.z).2], some [], u01O v.z ++ (lk (leafI 1 f 0 v u) ++ [])) := by kernel_rfl
theorem deRun2 (lk : SV → Obs) (G : Gm) (f : Nat → F) (v u : V3) : valR ((run Tryz.prog EG (ODy lk G) 80).1 10 [nodeS 2 f, v.sv, u.sv] [] (some [])) = some (.tup [ivS (G.lb v.z).1, .si .i64 (G.lb v.z).2], some [], u01O v.z ++ (lk (leafI 2 f 0 v u) ++ [])) := by kernel_rfl
theorem deRun3 (lk : SV → Obs) (G : Gm) (f : Nat → F) (v u : V3) : valR ((run Tryz.prog EG (ODy lk G) 80).1 10 [nodeS 3 f, v.sv, u.sv] [] (some [])) = some (.tup [ivS (G.gl v u (pF (f 13))).1.d, .si .i64 (G.gl v u (pF (f 13))).2], some [], glO v u (pF (f 13)) ++ (lk (leafI 3 f 0 v u) ++ [])) := by kernel_rfl
theorem deRun4 (lk : SV → Obs) (G : Gm) (f : Nat → F) (v u : V3) : valR ((run Tryz.prog EG (ODy lk G) 80).1 10 [nodeS 4 f, v.sv, u.sv] [] (some [])) = some (.tup [ivS (G.gl v u (pF (f 13))).1.d, .si .i64 (G.gl v u (pF (f 13))).2], some [], glO v u (pF (f 13)) ++ (lk (leafI 4 f 0 v u) ++ [])) := by kernel_rfl
def deOf : List SV → Option Lf
  | [.agg [.i .u8 k, .fl a0, .fl a1, .fl a2, .fl a3, .fl a4, .fl a5, .fl a6, .fl a7, .fl a8, .fl a9, .fl a10, .fl a11, .fl a12, .fl a13, .fl a14, .fl a15, .i .i64 0, .i .i64 0], .agg [.fl p0, .fl p1, .fl p2, .fl p3, .fl p4, .fl p5], .agg [.fl r0, .fl r1, .fl r2, .fl r3, .fl r4, .fl r5]] => some ⟨k, ndF a0 a1 a2 a3 a4 a5 a6 a7 a8 a9 a10 a11 a12 a13 a14 a15, 0, ⟨⟨p0, p1⟩, ⟨p2, p3⟩, ⟨p4, p5⟩⟩, ⟨⟨r0, r1⟩, ⟨r2, r3⟩, ⟨r4, r5⟩⟩⟩
  | _ => none
def dArgs (k : Int) (f : Nat → F) (v u : V3) : List SV := [nodeS k f, v.sv, u.sv]
theorem deOf_plain {l : List SV} {x : Lf} (h : deOf l = some x) : etaF x.f = x.f ∧ x.c = 0 ∧ ∃ vs, plains l = some vs ∧ plains (dArgs x.k x.f x.v x.u) = some vs := by
  unfold deOf at h
  split at h
  · simp only [Option.some.injEq] at h
    subst h
    exact ⟨rfl, rfl, _, rfl, rfl⟩
  · cases h
def dnG4 (G : Gm) (l : Lf) : I × Int := match l.k with
  | 1 => G.lb l.v.z
  | 2 => G.lb l.v.z
  | 3 => ((G.gl l.v l.u (pF (l.f 13))).1.d, (G.gl l.v l.u (pF (l.f 13))).2)
  | 4 => ((G.gl l.v l.u (pF (l.f 13))).1.d, (G.gl l.v l.u (pF (l.f 13))).2)
  | _ => (I.zero, 0)
def dnO4 (l : Lf) : Obs := lkOl l ++ match l.k with
  | 1 => u01O l.v.z
  | 2 => u01O l.v.z
  | 3 => glO l.v l.u (pF (l.f 13))
  | 4 => glO l.v l.u (pF (l.f 13))
  | _ => [(false, true)]
def kDe (g : Lf → I × Int) (o : Lf → Obs) (args : List SV) (ds : Dec) : Option (SV × Dec × Obs) := match deOf args with
  | some l => some (.tup [.agg [.fl (g l).1.lo, .fl (g l).1.hi], .si .i64 (g l).2], ds, o l)
  | none => none
theorem oracleDy : OracleOk Tryz.prog (ODy (lfB lkOl) GmR) := .cons lookK.of (.cons lbG.of (.cons glG.of (.nil _)))
theorem denK : PlainOk Tryz.prog 10 (kDe (dnG4 GmR) dnO4) := by
  intro args ds x ds' ob h ho
  unfold kDe at h
  split at h
  · rename_i l e
    simp only [Option.some.injEq, Prod.mk.injEq] at h
    obtain ⟨rfl, _, rfl⟩ := h
    obtain ⟨hf, hc, vs, h1, h2⟩ := deOf_plain e
    obtain ⟨k, f, c, v, u⟩ := l
    simp only at hf hc h2
    subst hc
    refine ⟨vs, _, h1, (plIt _ _).1, fun w => ?_⟩
    have hlk : ObsOk (lfB lkOl (leafI k f 0 v u) ++ []) := by
      have e : lfOf (leafI k f 0 v u) = some ⟨k, etaF f, 0, v, u⟩ := rfl
      unfold lfB; rw [e, hf]; exact ob_a (ob_l ho) ob_n
    have ho2 := ob_r ho
    split at ho2
    · rename_i q; simp only at q; subst q
      exact calls_of_val goodG oracleDy 80 (deRun1 _ _ f v u) (ob_a ho2 hlk) h2 (plIt _ _).1 w
    · rename_i q; simp only at q; subst q
      exact calls_of_val goodG oracleDy 80 (deRun2 _ _ f v u) (ob_a ho2 hlk) h2 (plIt _ _).1 w
    · rename_i q; simp only at q; subst q
      exact calls_of_val goodG oracleDy 80 (deRun3 _ _ f v u) (ob_a ho2 hlk) h2 (plIt _ _).1 w
    · rename_i q; simp only at q; subst q
      exact calls_of_val goodG oracleDy 80 (deRun4 _ _ f v u) (ob_a ho2 hlk) h2 (plIt _ _).1 w
    · exact absurd (ob_h ho2) (by simp)
  · cases h
end Go.Proofs.YtlhlcefkmhhmjaaGreat
namespace Go.Proofs.YtlhlcefkmhhmjaaGreat
set_option linter.all false
open Go.RowKit Bu Rx

theorem lnR_0 {E : List I × Int} {i : Nat} (h : E.2 = 0) : lnR E i = (gt E.1 i, 0) := by
  unfold lnR; rw [show neB E.2 = false by rw [h]; rfl]; rfl
theorem ggR_0 {p : List Bu.Op} {c al : I} (h : (evalK KkR p [c, al] 0).2 = 0) : ggR KkR p c al = (gt (evalK KkR p [c, al] 0).1 0, 0) := by
  unfold ggR ggE; rw [show neB (evalK KkR p [c, al] 0).2 = false by rw [h]; rfl]; rfl
set_option maxRecDepth 100000 in
theorem gl_of {v u : V3} {al : I} (h : (miE v u).2 = 0) (eD : (evalK KkR ggD [lnI v u, al] 0).2 = 0) (e2 : (evalK KkR gg2 [u.z, v.z, al] 0).2 = 0) (e1 : (evalK KkR gg1 [u.z, al] 0).2 = 0) (e : (giE v u al).2 = 0) : glR KkR GlR v u al = (⟨lnI v u, hfI v u, giV v u al, giD v u al⟩, 0) := by
  have eH : GlR.H v u = miE v u := rfl
  have h1 : glH GlR v u = (lnI v u, hfI v u) := by unfold glH; rw [eH, lnR_0 h, lnR_0 h]; rfl
  have h2 : GlR.d (lnI v u) al = (Da v u al, 0) := ggR_0 eD
  have h3 : GlR.b v.z u.z al = (Ga v u al, 0) := by
    have q : GlR.b = fun c d al => lnR (g2K KkR c d al) 0 := rfl
    rw [q]
    have e3 : (g2K KkR v.z u.z al).2 = 0 := e2
    show lnR (g2K KkR v.z u.z al) 0 = _
    rw [lnR_0 e3]
    rfl
  have h4 : GlR.o u.z al = (Gb u al, 0) := ggR_0 e1
  have h5 : glE KkR GlR v u al = giE v u al := by unfold glE; rw [h1, h2, h3, h4]; rfl
  unfold glR glErr glV
  rw [h1, h2, h3, h4, h5, eH, h, e]
  rfl
/-- within 0 and 1 -/
structure Uz1 (a : I) : Prop where
  rt : rt a = true
  lo : z64.k ≤ a.lo.k
  hi : a.hi.k ≤ one64.k
theorem Uz1.box {a : I} (h : Uz1 a) : InB a bz1 := ⟨h.lo, h.hi, of_decide_eq_true h.rt⟩
end Go.Proofs.YtlhlcefkmhhmjaaGreat
namespace Bu
set_option linter.all false
open Rx Go

def idxB (m : List Nat) (a i : Nat) : Bool := decide (a < m.length) && Nat.beq (m.getD a 0) i
/-- row o' with the registers told by m is row o -/
def okR (m : List Nat) : Bu.Op → Bu.Op → Bool
  | .add i j, .add a b => idxB m a i && idxB m b j
  | .sub i j, .sub a b => idxB m a i && idxB m b j
  | .mul i j, .mul a b => idxB m a i && idxB m b j
  | .div i j, .div a b => idxB m a i && idxB m b j
  | .max i j, .max a b => idxB m a i && idxB m b j
  | .sqr i, .sqr a => idxB m a i
  | .sqrt i, .sqrt a => idxB m a i
  | .num x, .num y => eqF x y
  | .lit x, .lit y => eqI x y
  | .kept l h i, .kept l' h' a => eqF l l' && eqF h h' && idxB m a i
  | _, _ => false
def agR : List Bu.Op → List Bu.Op → List Nat → Bool
  | [], [], _ => true
  | o :: l, o' :: l', m => okR m o o' && agR l l' (0 :: m.map (· + 1))
  | _, _, _ => false
def AgV (m : List Nat) (v w : List I) : Prop := ∀ a, a < m.length → gt w a = gt v (m.getD a 0)
theorem idx_ok {m : List Nat} {v w : List I} {a i : Nat} (h : AgV m v w) (k : idxB m a i = true) : gt v i = gt w a := by
  unfold idxB at k
  rw [Bool.and_eq_true] at k
  rw [h a (of_decide_eq_true k.1), Nat.eq_of_beq_eq_true k.2]
theorem okR_step {K : Kk} {m : List Nat} {v w : List I} {o o' : Bu.Op} {e : Int} (h : AgV m v w) (k : okR m o o' = true) : stepK K o v e = stepK K o' w e := by
  unfold okR at k
  split at k <;> (try simp only [Bool.and_eq_true] at k)
  all_goals first
    | (simp only [stepK, idx_ok h k.1, idx_ok h k.2]; done)
    | (simp only [stepK, idx_ok h k]; done)
    | (simp only [stepK, eqF_ok k]; done)
    | (simp only [stepK, eqI_ok k]; done)
    | (simp only [stepK, eqF_ok k.1.1, eqF_ok k.1.2, idx_ok h k.2]; done)
    | exact absurd k (by decide)
theorem agV_push {m : List Nat} {v w : List I} {r : I} (h : AgV m v w) : AgV (0 :: m.map (· + 1)) (r :: v) (r :: w) := by
  intro a ha
  cases a with
  | zero => rfl
  | succ a =>
    have ha' : a < m.length := by simpa using ha
    have e : (0 :: m.map (· + 1)).getD (a + 1) 0 = m.getD a 0 + 1 := by
      simp only [List.getD_eq_getElem?_getD, List.getElem?_cons_succ, List.getElem?_map, List.getElem?_eq_getElem ha', Option.map_some, Option.getD_some]
    rw [e]
    exact h a ha'
theorem eval_agR {K : Kk} : ∀ {l l' : List Bu.Op} {m : List Nat} {v w : List I} {e : Int}, agR l l' m = true → AgV m v w → (evalK K l v e).2 = (evalK K l' w e).2 ∧ ((l = [] → gt v 0 = gt w 0) → gt (evalK K l v e).1 0 = gt (evalK K l' w e).1 0)
  | [], [], m, v, w, e, _, _ => ⟨rfl, fun h => h rfl⟩
  | o :: l, o' :: l', m, v, w, e, h, k => by
    unfold agR at h
    rw [Bool.and_eq_true] at h
    have s := okR_step (K := K) (e := e) k h.1
    have t := eval_agR (K := K) (e := (stepK K o v e).2) h.2 (agV_push (r := (stepK K o v e).1) k)
    unfold evalK
    rw [← s]
    exact ⟨t.1, fun _ => t.2 fun _ => rfl⟩
  | [], _ :: _, _, _, _, _, h, _ => by cases h
  | _ :: _, [], _, _, _, _, h, _ => by cases h
theorem eval_app {K : Kk} : ∀ {a b : List Bu.Op} {v : List I} {e : Int}, evalK K (a ++ b) v e = evalK K b (evalK K a v e).1 (evalK K a v e).2
  | [], _, _, _ => rfl
  | o :: a, b, v, e => by
    show evalK K (a ++ b) ((stepK K o v e).1 :: v) (stepK K o v e).2 = _
    rw [eval_app]
    rfl
theorem eval_regs {K : Kk} : ∀ {l : List Bu.Op} {v : List I} {e : Int} (k : Nat), gt (evalK K l v e).1 (l.length + k) = gt v k
  | [], v, e, k => by rw [List.length_nil, Nat.zero_add]; rfl
  | o :: l, v, e, k => by
    have h := eval_regs (K := K) (l := l) (v := (stepK K o v e).1 :: v) (e := (stepK K o v e).2) (k + 1)
    show gt (evalK K l ((stepK K o v e).1 :: v) (stepK K o v e).2).1 (l.length + 1 + k) = _
    rw [show l.length + 1 + k = l.length + (k + 1) by omega, h]
    rfl
theorem ev0 {o : Bu.Op} {l : List Bu.Op} {v : List I} (h : (evalK KkR (o :: l) v 0).2 = 0) : (stepK KkR o v 0).2 = 0 ∧ evalK KkR (o :: l) v 0 = evalK KkR l ((stepK KkR o v 0).1 :: v) 0 := by
  have e : evalK KkR (o :: l) v 0 = evalK KkR l ((stepK KkR o v 0).1 :: v) (stepK KkR o v 0).2 := rfl
  by_cases k : (stepK KkR o v 0).2 = 0
  · exact ⟨k, by rw [e, k]⟩
  · rw [e, eval_kept k] at h; exact absurd h k
/-- of rho, sigma, sl -/
def orT : List Op := [.lit (PIc), .num (two64), .num (one64), .div 2 1, .num (three64), .div 3 0, .sub 2 0, .mul 0 8, .add 7 0, .div 6 0, .mul 11 0, .mul 0 11, .add 2 0, .mul 15 0, .kept z64 one64 0]
end Bu
namespace Go.Proofs.YtlhlcefkmhhmjaaGreat
set_option linter.all false
open Go.RowKit Bu Rx

theorem or_same : agR (orA.drop 3) orT [0, 6, 7] = true ∧ agR (orB.drop 5) orT [0, 8, 9] = true ∧ agR (orC.drop 8) orT [0, 11, 12] = true := by decide +kernel
set_option maxRecDepth 100000 in
theorem or_box : (evalK KkR orT [b11, bz1, bz1] 0).2 = 0 ∧ orT.all monoB = true ∧ (evalK KkR (orA.take 3) [b11, bzz, bzz, bz1, bz1] 0).2 = 0 ∧ (evalK KkR (orB.take 5) [b11, bzz, bzz, bz1, bz1] 0).2 = 0 ∧ (orA.take 3).all monoB = true ∧ (orB.take 5).all monoB = true := by decide +kernel
def orV (r s sl : I) : I := gt (evalK KkR orT [sl, s, r] 0).1 0
/-- the heads: the slope -/
def hdA (r s i o d : I) : List I × Int := evalK KkR (orA.take 3) [d, o, i, s, r] 0
def hdB (r s i o d : I) : List I × Int := evalK KkR (orB.take 5) [d, o, i, s, r] 0
def hdC (r s i o d : I) : List I × Int := evalK KkR (orC.take 8) [d, o, i, s, r] 0
def hdS (r s i o d : I) : List I × Int := bif decide ((orQ KkR i o d).hi.k ≤ z64.k) then hdA r s i o d else bif decide (z64.k ≤ (orQ KkR i o d).lo.k) then hdB r s i o d else hdC r s i o d
structure B11 (a : I) : Prop where
  rt : rt a = true
  lo : mone64.k ≤ a.lo.k
  hi : a.hi.k ≤ one64.k
theorem B11.box {a : I} (h : B11 a) : InB a b11 := ⟨h.lo, h.hi, of_decide_eq_true h.rt⟩
theorem kept_b11 {a : I} (h : rt a = true) : B11 (keptI a mone64 one64) := by
  obtain ⟨e1, e2⟩ := keptI_k a mone64 one64
  have zk : mone64.k ≤ one64.k := by decide +kernel
  exact ⟨keptI_rt h, by rw [e1]; omega, by rw [e2]; omega⟩
theorem orV_box {r s sl : I} (hr : Uz1 r) (hs : Uz1 s) (hl : B11 sl) : (evalK KkR orT [sl, s, r] 0).2 = 0 := (box (v := [sl, s, r]) (w := [b11, bz1, bz1]) or_box.2.1 ⟨hl.box, hs.box, hr.box, trivial⟩ or_box.1).1
theorem tail_of {n : Nat} {p : List Nat} {l : List Bu.Op} {r s i o d : I} (hl : l.length = n + (l.drop n).length) (ha : agR (l.drop n) orT [0, n + 3, n + 4] = true) (hr : Uz1 r) (hs : Uz1 s) (hh : (evalK KkR (l.take n) [d, o, i, s, r] 0).2 = 0 → B11 (gt (evalK KkR (l.take n) [d, o, i, s, r] 0).1 0)) :
    lnR (orE KkR l r s i o d) 0 = bif neB (evalK KkR (l.take n) [d, o, i, s, r] 0).2 then (I.zero, (evalK KkR (l.take n) [d, o, i, s, r] 0).2) else (orV r s (gt (evalK KkR (l.take n) [d, o, i, s, r] 0).1 0), 0) := by
  have e : orE KkR l r s i o d = evalK KkR (l.drop n) (evalK KkR (l.take n) [d, o, i, s, r] 0).1 (evalK KkR (l.take n) [d, o, i, s, r] 0).2 := by
    unfold orE
    rw [← eval_app, List.take_append_drop]
  have g := fun k => eval_regs (K := KkR) (l := l.take n) (v := [d, o, i, s, r]) (e := 0) k
  rw [List.length_take, Nat.min_eq_left (by omega)] at g
  rw [e]
  generalize hH : evalK KkR (l.take n) [d, o, i, s, r] 0 = H at *
  by_cases k : H.2 = 0
  · have av : AgV [0, n + 3, n + 4] H.1 [gt H.1 0, s, r] := by
      intro a ha
      match a, ha with
      | 0, _ => rfl
      | 1, _ => exact (g 3).symm
      | 2, _ => exact (g 4).symm
    obtain ⟨t1, t2⟩ := eval_agR (K := KkR) (e := 0) ha av
    have b := orV_box hr hs (hh k)
    rw [k]
    rw [lnR_0 (t1.trans b)]
    show _ = (orV r s (gt H.1 0), 0)
    unfold orV
    rw [t2 fun _ => rfl]
  · have q : neB H.2 = true := by unfold neB; simpa using k
    unfold lnR
    rw [eval_kept k, q]
    rfl
theorem hdA_b {r s i o d : I} (h : (hdA r s i o d).2 = 0) : B11 (gt (hdA r s i o d).1 0) := by
  have k := eval_chainR h
  unfold hdA at *
  generalize (evalK KkR (orA.take 3) [d, o, i, s, r] 0).1 = w at *
  obtain ⟨p, ⟨hp, _⟩, q, ⟨hq, hr⟩, sl, ⟨hsl, _⟩, hend⟩ := k
  subst hend
  have e : sl = keptI q mone64 one64 := hsl
  show B11 sl
  rw [e]
  have a := rt_le (show rt d = true from hr.1)
  have b := rt_le (show rt p = true from AllR.rt hp)
  exact kept_b11 (dn_up hq.1 hq.2 (by show d.lo.q - p.hi.q ≤ d.hi.q - p.lo.q; grind))
theorem hdB_b {r s i o d : I} (h : (hdB r s i o d).2 = 0) : B11 (gt (hdB r s i o d).1 0) := by
  obtain ⟨_, k⟩ := eval_chain h
  unfold hdB at *
  generalize (evalK KkR (orB.take 5) [d, o, i, s, r] 0).1 = w at *
  obtain ⟨p, hp, q, hq, mx, hmx, dv, hdv, sl, hsl, hend⟩ := k
  subst hend
  have e : sl = keptI dv mone64 one64 := hsl
  have r0 : rt dv = true := AllR.rt hdv.2
  show B11 sl
  rw [e]
  exact kept_b11 r0
theorem hull_rt {a b : I} (ha : rt a = true) (hb : rt b = true) : rt (hullI a b) = true := by
  have x := of_decide_eq_true ha; have y := of_decide_eq_true hb
  refine decide_eq_true ?_
  show (mnF a.lo b.lo).k ≤ (mxF a.hi b.hi).k
  rw [mnF_k, mxF_k]; omega
theorem hdC_b {r s i o d : I} (h : (hdC r s i o d).2 = 0) (h0 : (orQ KkR i o d).lo.k < z64.k) : B11 (gt (hdC r s i o d).1 0) := by
  have q0 : orQ KkR i o d = gt (hdC r s i o d).1 6 := by
    have e : hdC r s i o d = evalK KkR ((orC.take 8).drop 2) (evalK KkR ((orC.take 8).take 2) [d, o, i, s, r] 0).1 (evalK KkR ((orC.take 8).take 2) [d, o, i, s, r] 0).2 := by rw [← eval_app, List.take_append_drop]; rfl
    rw [e]
    have g := eval_regs (K := KkR) (l := (orC.take 8).drop 2) (v := (evalK KkR ((orC.take 8).take 2) [d, o, i, s, r] 0).1) (e := (evalK KkR ((orC.take 8).take 2) [d, o, i, s, r] 0).2) 0
    exact Eq.symm g
  rw [q0] at h0
  obtain ⟨_, k⟩ := eval_chain h
  unfold hdC at *
  generalize (evalK KkR (orC.take 8) [d, o, i, s, r] 0).1 = w at *
  obtain ⟨p, hp, q, hq, hp', hhp, mx, hmx, up, hup, hn, hhn, hu, hhu, sl, hsl, hend⟩ := k
  subst hend
  have e : sl = keptI hu mone64 one64 := hsl
  have e1 : hu = hullI hn up := hhu
  have e2 : hn = negH q := hhn
  have r0 : rt up = true := AllR.rt hup.2
  have r1 : rt hn = true := by
    rw [e2]; exact decide_eq_true (Int.le_of_lt h0)
  show B11 sl
  rw [e, e1]
  exact kept_b11 (hull_rt r1 r0)
/-- Oren's value by its slope -/
theorem or_val {r s i o d : I} (hr : Uz1 r) (hs : Uz1 s) : orR KkR r s i o d = bif neB (hdS r s i o d).2 then (I.zero, (hdS r s i o d).2) else (orV r s (gt (hdS r s i o d).1 0), 0) := by
  unfold orR hdS
  cases c1 : decide ((orQ KkR i o d).hi.k ≤ z64.k)
  · cases c2 : decide (z64.k ≤ (orQ KkR i o d).lo.k)
    · exact tail_of (n := 8) (p := []) rfl or_same.2.2 hr hs (fun h => hdC_b h (by have := of_decide_eq_false c2; omega))
    · exact tail_of (n := 5) (p := []) rfl or_same.2.1 hr hs hdB_b
  · exact tail_of (n := 3) (p := []) rfl or_same.1 hr hs hdA_b
theorem hdS_b {r s i o d : I} (h : (hdS r s i o d).2 = 0) : B11 (gt (hdS r s i o d).1 0) := by
  unfold hdS at *
  cases c1 : decide ((orQ KkR i o d).hi.k ≤ z64.k)
  · cases c2 : decide (z64.k ≤ (orQ KkR i o d).lo.k)
    · rw [c1, c2] at h
      exact hdC_b h (by have := of_decide_eq_false c2; omega)
    · rw [c1, c2] at h
      exact hdB_b h
  · rw [c1] at h
    exact hdA_b h
end Go.Proofs.YtlhlcefkmhhmjaaGreat
