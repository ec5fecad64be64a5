/- burnishref13.Draw over the document's lines, by the reckoner. burnishref13.Draw by the reckoner. burnishref13.Draw as a known function: vndf.Draw's own; burnishref09's D and G1: ggx's own. -/
import Derived.Test.YtmhhopfffeijnaaGreatZ18
import Derived.Test.YtmhhopfffeijnaaGreatZ29
import Derived.Test.YtmhhopfffeijnaaGreatZ16
namespace Go.Proofs.YtmhhopfffeijnaaGreat
set_option linter.all false
open Go.RowKit Bu Rx

def ORF (K : Kk) : List (Nat × OF) := [(73, kC (aII K.add)), (46, kC (aII K.sub)), (49, kC (aII K.mul)), (75, kC (aII K.div)), (45, kC (aII K.max)), (74, kC (aI K.sqr)), (44, kC (aI K.sqrt)), (76, kC (aI K.neg)), (47, kC (aF K.num)), (28, plainO (kBI rt)), (98, plainO (oConst (.agg [.fl PIc.lo, .fl PIc.hi]))), (48, plainO (kKept endF))]
def ORF13 (K : Kk) (N : Kq) : OracleF := lookO (ORF K ++ [(7, plainO (kSC N.ib N.si N.co)), (43, plainO (kOf N.uo N.u))])
theorem oracleRF13 : OracleOk Tryz.prog (ORF13 KkR (KqR atR)) := .cons raddC (.cons rsubC (.cons rmulC (.cons rdivC (.cons rmax_I (.cons rsqrC (.cons rsqtC (.cons rnegC (.cons rnumC (.cons rrtK2.of (.cons rpiG.of (.cons keptK.of (.cons rscK.of (.cons rofK.of (.nil _))))))))))))))
end Go.Proofs.YtmhhopfffeijnaaGreat
namespace Bu
set_option linter.all false
open Rx Go

def rdQ (K : Kk) (v : List I) : I := gt (evalK K rdP1 v 0).1 0
def rdV (K : Kk) (p : List Op) (v : List I) : V3 := ⟨gt (evalK K p v 0).1 2, gt (evalK K p v 0).1 1, gt (evalK K p v 0).1 0⟩
def rdX (K : Kk) (t p : List Op) (v : List I) : V3 × Int := bif neB (evalK K t v 0).2 then (V3.zero, (evalK K t v 0).2) else bif neB (evalK K p v 0).2 then (V3.zero, (evalK K p v 0).2) else (rdV K p v, 0)
def rdR (K : Kk) (v : List I) : V3 × Int := bif decide ((rdQ K v).hi.k = z64.k) then rdX K rdTa rdA v else bif decide ((rdQ K v).lo.k ≤ z64.k) && decide ((evalK K rdP1 v 0).2 = 0) then (V3.zero, 11) else rdX K rdTb rdB v
end Bu
namespace Go.Proofs.YtmhhopfffeijnaaGreat
set_option linter.all false
open Go.RowKit Bu Rx

def rdOw (v : V3) (al : I) : Obs := [(decide (al.hi.k ≤ one64.k), true), (decide (minA.k ≤ al.lo.k), true), (decide (v.z.hi.k ≤ one64.k), true), (decide (z64.k ≤ v.z.lo.k), true), (decide (v.y.hi.k ≤ one64.k), true), (decide (mone64.k ≤ v.y.lo.k), true), (decide (v.x.hi.k ≤ one64.k), true), (decide (mone64.k ≤ v.x.lo.k), true), (rt al, true), (rt v.z, true), (rt v.y, true), (rt v.x, true)]
def rdOq (N : Kq) (v : V3) (al : I) (b : Int) : Obs := (N.ib (N.uo b), true) :: (N.u b, true) :: rdOw v al
def kl3 (o : Obs) : Obs := kl z64 one64 :: kl mone64 one64 :: kl mone64 one64 :: o
def kl2 (o : Obs) : Obs := kl mone64 one64 :: kl mone64 one64 :: o
def rdOp (K : Kk) (N : Kq) (v : V3) (al : I) (a b : Int) (z : Bool) : Obs := (!decide ((rdQ K (drEnv N v al a b)).hi.k = z64.k), !z) :: kl3 (rdOq N v al b)
theorem rdRunN (K : Kk) (N : Kq) (v : V3) (al : I) (a b : Int) : valR ((run Tryz.prog EH (ORF13 K N) 80).1 19 (drA0 v al a b) [] (some (t13 ++ [true, true, true]))) =
    some (.tup [V3.zero.sv, .i .i64 11], some [], (decide ((evalK K rdP1 (drEnv N v al a b) 0).2 = 0), true) :: (decide ((rdQ K (drEnv N v al a b)).lo.k ≤ z64.k), true) :: rdOp K N v al a b false) := by kernel_rfl
theorem rdRunA0 (K : Kk) (N : Kq) (v : V3) (al : I) (a b : Int) : valR ((run Tryz.prog EH (ORF13 K N) 80).1 19 (drA0 v al a b) [] (some (t13 ++ [false, true]))) =
    some (.tup [V3.zero.sv, .si .i64 (evalK K rdTa (drEnv N v al a b) 0).2], some [], (neB (evalK K rdTa (drEnv N v al a b) 0).2, true) :: rdOp K N v al a b true) := by kernel_rfl
theorem rdRunA1 (K : Kk) (N : Kq) (v : V3) (al : I) (a b : Int) : valR ((run Tryz.prog EH (ORF13 K N) 80).1 19 (drA0 v al a b) [] (some (t13 ++ [false, false, true]))) =
    some (.tup [V3.zero.sv, .si .i64 (evalK K rdA (drEnv N v al a b) 0).2], some [], (neB (evalK K rdA (drEnv N v al a b) 0).2, true) :: kl3 ((N.u a, true) :: (neB (evalK K rdTa (drEnv N v al a b) 0).2, false) :: rdOp K N v al a b true)) := by kernel_rfl
theorem rdRunA2 (K : Kk) (N : Kq) (v : V3) (al : I) (a b : Int) : valR ((run Tryz.prog EH (ORF13 K N) 80).1 19 (drA0 v al a b) [] (some (t13 ++ [false, false, false]))) =
    some (.tup [(rdV K rdA (drEnv N v al a b)).sv, .i .i64 0], some [], (neB (evalK K rdA (drEnv N v al a b) 0).2, false) :: kl3 ((N.u a, true) :: (neB (evalK K rdTa (drEnv N v al a b) 0).2, false) :: rdOp K N v al a b true)) := by kernel_rfl
/-- the test of q's lower end, and that of the error where there is one -/
def rdOl (K : Kk) (N : Kq) (v : V3) (al : I) (a b : Int) (l : Bool) : Obs := bif l then (decide ((evalK K rdP1 (drEnv N v al a b) 0).2 = 0), false) :: (decide ((rdQ K (drEnv N v al a b)).lo.k ≤ z64.k), true) :: rdOp K N v al a b false else (decide ((rdQ K (drEnv N v al a b)).lo.k ≤ z64.k), false) :: rdOp K N v al a b false
def rdDl (l : Bool) : List Bool := bif l then [true, true, false] else [true, false]
theorem rdRunB0 (K : Kk) (N : Kq) (v : V3) (al : I) (a b : Int) (l : Bool) : valR ((run Tryz.prog EH (ORF13 K N) 80).1 19 (drA0 v al a b) [] (some (t13 ++ (rdDl l ++ [true])))) =
    some (.tup [V3.zero.sv, .si .i64 (evalK K rdTb (drEnv N v al a b) 0).2], some [], (neB (evalK K rdTb (drEnv N v al a b) 0).2, true) :: kl2 (rdOl K N v al a b l)) := by cases l <;> kernel_rfl
theorem rdRunB1 (K : Kk) (N : Kq) (v : V3) (al : I) (a b : Int) (l : Bool) : valR ((run Tryz.prog EH (ORF13 K N) 80).1 19 (drA0 v al a b) [] (some (t13 ++ (rdDl l ++ [false, true])))) =
    some (.tup [V3.zero.sv, .si .i64 (evalK K rdB (drEnv N v al a b) 0).2], some [], (neB (evalK K rdB (drEnv N v al a b) 0).2, true) :: kl3 ((N.u a, true) :: (neB (evalK K rdTb (drEnv N v al a b) 0).2, false) :: kl2 (rdOl K N v al a b l))) := by cases l <;> kernel_rfl
theorem rdRunB2 (K : Kk) (N : Kq) (v : V3) (al : I) (a b : Int) (l : Bool) : valR ((run Tryz.prog EH (ORF13 K N) 80).1 19 (drA0 v al a b) [] (some (t13 ++ (rdDl l ++ [false, false])))) =
    some (.tup [(rdV K rdB (drEnv N v al a b)).sv, .i .i64 0], some [], (neB (evalK K rdB (drEnv N v al a b) 0).2, false) :: kl3 ((N.u a, true) :: (neB (evalK K rdTb (drEnv N v al a b) 0).2, false) :: kl2 (rdOl K N v al a b l))) := by cases l <;> kernel_rfl
end Go.Proofs.YtmhhopfffeijnaaGreat
namespace Bu
set_option linter.all false
open Rx Go

theorem ev_app (K : Kk) : ∀ (l m : List Bu.Op) (v : List I) (e : Int), evalK K (l ++ m) v e = evalK K m (evalK K l v e).1 (evalK K l v e).2
  | [], _, _, _ => rfl
  | o :: l, m, v, e => ev_app K l m ((stepK K o v e).1 :: v) (stepK K o v e).2
theorem ev_tail {l m : List Bu.Op} {v : List I} (h : (evalK KkR l v 0).2 ≠ 0) : (evalK KkR (l ++ m) v 0).2 = (evalK KkR l v 0).2 := by
  rw [ev_app, eval_kept h]
theorem drTa_cut : drTa = drP1 ++ drTa.drop 21 := rfl
theorem drTb_cut : drTb = drP1 ++ drTb.drop 21 := rfl
theorem sim_get {s : Option (List Nat)} {i j : Nat} (h : at1 s i j = true) : ∃ k, s = some k ∧ i < k.length ∧ k.getD i 0 = j := by
  unfold at1 at h
  split at h
  · rename_i k
    obtain ⟨h1, h2⟩ := both' h
    rw [Nat.blt_eq] at h1
    exact ⟨k, rfl, h1, nbeq h2⟩
  · cases h
theorem sim_val {l r : List Bu.Op} {n a i j : Nat} {v : List I} (h : at1 (sim n l r [] (List.range a)) i j = true) (h0 : (evalK KkR l v 0).2 = 0) : gt (evalK KkR r v 0).1 i = gt (evalK KkR l v 0).1 j := by
  obtain ⟨k, e, hi, hj⟩ := sim_get h
  rw [((sim_all (v := v) (w := v) e rel_id).2 h0) i hi, hj]
theorem sim_err {l r : List Bu.Op} {n a : Nat} {v : List I} (h : (sim n l r [] (List.range a)).isSome = true) : (evalK KkR l v 0).2 = (evalK KkR r v 0).2 := by
  cases e : sim n l r [] (List.range a) with
  | none => rw [e] at h; cases h
  | some k => exact (sim_all (v := v) (w := v) e rel_id).1
theorem at1_some {s : Option (List Nat)} {i j : Nat} (h : at1 s i j = true) : s.isSome = true := by
  obtain ⟨k, e, _⟩ := sim_get h
  rw [e]; rfl
theorem rdX_eq {t p t' p' : List Bu.Op} {v : List I} (h1 : (sim 200 t t' [] (List.range 7)).isSome = true) (h2 : at1 (sim 200 p p' [] (List.range 7)) 2 2 = true) (h3 : at1 (sim 200 p p' [] (List.range 7)) 1 1 = true) (h4 : at1 (sim 200 p p' [] (List.range 7)) 0 0 = true) : rdX KkR t' p' v = drX KkR t p v := by
  unfold rdX drX
  rw [sim_err (v := v) h1, sim_err (v := v) (at1_some h2)]
  cases c1 : neB (evalK KkR t' v 0).2
  · cases c2 : neB (evalK KkR p' v 0).2
    · have z : (evalK KkR p v 0).2 = 0 := (sim_err (v := v) (at1_some h2)).trans (neB_0' c2)
      simp only [cond_false, rdV, drV]
      rw [sim_val h2 z, sim_val h3 z, sim_val h4 z]
    · rfl
  · rfl
where neB_0' {e : Int} (h : neB e = false) : e = 0 := by unfold neB at h; simpa using h
theorem neB_n {e : Int} (h : e ≠ 0) : neB e = true := by unfold neB; simp [h]
theorem rdR_eq (v : List I) : rdR KkR v = drR KkR v := by
  obtain ⟨s8, s9⟩ := both' sims
  obtain ⟨s7, s8⟩ := both' s8
  obtain ⟨s6, s7⟩ := both' s7
  obtain ⟨s5, s6⟩ := both' s6
  obtain ⟨s4, s5⟩ := both' s5
  obtain ⟨s3, s4⟩ := both' s4
  obtain ⟨s2, s3⟩ := both' s3
  obtain ⟨s1, s2⟩ := both' s2
  have eA : rdX KkR rdTa rdA v = drX KkR drTa drA v := rdX_eq s2 s4 s5 s6
  have eB : rdX KkR rdTb rdB v = drX KkR drTb drB v := rdX_eq s3 s7 s8 s9
  have e1 := sim_err (v := v) (at1_some s1)
  unfold rdR drR
  rw [eA, eB]
  by_cases h : (evalK KkR drP1 v 0).2 = 0
  · have q : rdQ KkR v = drQ KkR v := sim_val s1 h
    rw [q, ← e1, h]
    cases c : decide ((drQ KkR v).hi.k = z64.k)
    · cases c2 : decide (z64.k < (drQ KkR v).lo.k)
      · have c3 : decide ((drQ KkR v).lo.k ≤ z64.k) = true := decide_eq_true (by have := of_decide_eq_false c2; omega)
        rw [c3]
        unfold drN
        rw [h]; rfl
      · have c3 : decide ((drQ KkR v).lo.k ≤ z64.k) = false := decide_eq_false (by have := of_decide_eq_true c2; omega)
        rw [c3]; rfl
    · rfl
  · have ta : drX KkR drTa drA v = (V3.zero, (evalK KkR drP1 v 0).2) := by
      have e : (evalK KkR drTa v 0).2 = (evalK KkR drP1 v 0).2 := by rw [drTa_cut]; exact ev_tail h
      unfold drX; rw [e, neB_n h, cond_true]
    have tb : drX KkR drTb drB v = (V3.zero, (evalK KkR drP1 v 0).2) := by
      have e : (evalK KkR drTb v 0).2 = (evalK KkR drP1 v 0).2 := by rw [drTb_cut]; exact ev_tail h
      unfold drX; rw [e, neB_n h, cond_true]
    have hd : decide ((evalK KkR rdP1 v 0).2 = 0) = false := decide_eq_false (by rw [← e1]; exact h)
    rw [ta, tb, hd, Bool.and_false]
    unfold drN
    rw [neB_n h]
    cases decide ((rdQ KkR v).hi.k = z64.k) <;> cases decide ((drQ KkR v).hi.k = z64.k) <;> cases decide (z64.k < (drQ KkR v).lo.k) <;> rfl
def rgX (K : Kk) (c al : I) : I := gt (ggE K rg1 c al).1 0
def laR (K : Kk) (c al : I) : I × Int := bif neB (ggE K rg1 c al).2 then (I.zero, (ggE K rg1 c al).2) else (hidI (rgX K c al), 0)
def rgR (K : Kk) (c al : I) : I × Int := bif neB (laR K c al).2 then (I.zero, (laR K c al).2) else (gt (evalK K rg1b [(laR K c al).1] 0).1 0, 0)
/-- both parts in one -/
def rg1L : List Bu.Op := rg1 ++ (.hid 0 :: rg1b)
def simG : Option (List Nat) := sim 200 gg1 rg1L [] (List.range 2)
set_option maxRecDepth 100000 in
theorem simG_ok : at1 simG 0 0 = true := by decide +kernel
theorem rg1b_env (K : Kk) (l : I) (u : List I) : gt (evalK K rg1b (l :: u) 0).1 0 = gt (evalK K rg1b [l] 0).1 0 ∧ (evalK K rg1b (l :: u) 0).2 = (evalK K rg1b [l] 0).2 := ⟨rfl, rfl⟩
/-- what Lambda may be -/
def bxl : I := ⟨z64, hugeF⟩
set_option maxRecDepth 100000 in
theorem rg1b_box : (evalK KkR rg1b [bxl] 0).2 = 0 := by decide +kernel
theorem rg1b_mono : ∀ o ∈ rg1b, MonoO o := by
  intro o ho
  simp only [rg1b, List.mem_cons, List.not_mem_nil, or_false] at ho
  rcases ho with rfl | rfl | rfl | rfl <;> trivial
theorem la_box {c al : I} (h : (ggE KkR rg1 c al).2 = 0) : Inn (hidI (rgX KkR c al)) bxl := by
  obtain ⟨_, k⟩ := eval_chain h
  have hx : rt (rgX KkR c al) = true ∧ (rgX KkR c al).hi.q ≤ hugeF.q := by
    unfold rgX ggE
    generalize (evalK KkR rg1 [c, al] 0).1 = u at *
    obtain ⟨a2, ha2, o2, ho2, sq, hsq, s1, hs1, sq2, hsq2, t, ht, h, hh, o3, ho3, atn, hatn, s2, hs2, r, hr, o4, ho4, s3, hs3, x, hx, hend⟩ := k
    subst hend
    have hm : (2 * MB) = hugeF.q := huge_q.symm
    have mp := MB_pos
    have b1 := F_le s2.hi
    have b2 := F_le s2.lo
    have hB : 0 ≤ hugeF.q := by rw [huge_q]; grind
    have q1 : o4 = ⟨one64, one64⟩ := ho4
    have q3 : h = ⟨q2, q2⟩ := hh
    have h1 : one64.q = 1 := one_q
    have e1 : r.hi.q ≤ hugeF.q := hr.2.2.bot hugeF hB (Rat.le_trans b1 (by rw [huge_q]; have := Rat.mul_pos mp mp; grind))
    have e0 : r.lo.q ≤ hugeF.q := by
      apply Rat.not_lt.1
      intro g
      rw [huge_q] at g
      have a1 : r.lo.q * r.lo.q ≤ s2.lo.q := hr.2.1.le
      have a2 := Rat.mul_pos mp mp
      have a3 := Rat.mul_pos (show 0 < r.lo.q - 2 * MB by grind) (show 0 < r.lo.q + 2 * MB by grind)
      grind
    have t1 : Dn s3.lo (r.lo.q - o4.hi.q) := hs3.1
    have t2 : Up s3.hi (r.hi.q - o4.lo.q) := hs3.2
    rw [q1] at t1 t2
    have f1 : s3.hi.q ≤ hugeF.q := t2.bot hugeF (by show r.hi.q - one64.q ≤ _; rw [h1]; grind)
    have f2 : s3.lo.q ≤ hugeF.q := by have a := t1.le; have b : s3.lo.q ≤ r.lo.q - one64.q := a; rw [h1] at b; grind
    have g : AllR x (h.lo.q * s3.lo.q) (h.lo.q * s3.hi.q) (h.hi.q * s3.lo.q) (h.hi.q * s3.hi.q) := hx
    refine ⟨g.rt, ?_⟩
    rw [q3] at g
    have h2 : q2.q = 1 / 2 := by have := consts.2.2.2.2.2.1; grind
    simp only [h2] at g
    exact g.bot (by grind) (by grind) (by grind) (by grind)
  obtain ⟨e1, e2⟩ := hidI_k (rgX KkR c al)
  have z : (toF 0).k = z64.k := rfl
  have zh : z64.k ≤ hugeF.k := by decide +kernel
  have hh := q_le.1 hx.2
  refine ⟨q_le.2 ?_, q_le.2 ?_, hidI_rt hx.1⟩
  · show z64.k ≤ (hidI (rgX KkR c al)).lo.k
    rw [e1]; omega
  · show (hidI (rgX KkR c al)).hi.k ≤ hugeF.k
    rw [e2]; omega
theorem rgR_eq (c al : I) : rgR KkR c al = ggR KkR gg1 c al := by
  obtain ⟨k, ek, _⟩ := sim_get simG_ok
  have hs : (sim 200 gg1 rg1L [] (List.range 2)).isSome = true := at1_some simG_ok
  have e0 := sim_err (v := [c, al]) hs
  have eL : evalK KkR rg1L [c, al] 0 = evalK KkR (.hid 0 :: rg1b) (ggE KkR rg1 c al).1 (ggE KkR rg1 c al).2 := ev_app KkR rg1 _ _ _
  unfold rgR laR ggR
  by_cases h : (ggE KkR rg1 c al).2 = 0
  · have hb := la_box h
    have e2 : evalK KkR rg1L [c, al] 0 = evalK KkR rg1b (hidI (rgX KkR c al) :: (ggE KkR rg1 c al).1) 0 := by rw [eL, h]; rfl
    obtain ⟨g1, g2⟩ := rg1b_env KkR (hidI (rgX KkR c al)) (ggE KkR rg1 c al).1
    have n0 := (eval_inn rg1b_mono (v := [hidI (rgX KkR c al)]) (v' := [bxl]) (fun i => by
      cases i with
      | zero => exact hb
      | succ i => exact Inn.refl (by rfl)) rg1b_box).1
    have z : (ggE KkR gg1 c al).2 = 0 := e0.trans (by rw [e2, g2, n0])
    have nz : neB (0 : Int) = false := rfl
    rw [h, nz, cond_false, nz, cond_false, z, nz, cond_false]
    have v0 := sim_val (v := [c, al]) simG_ok z
    rw [e2, g1] at v0
    rw [v0]; rfl
  · have z : (ggE KkR gg1 c al).2 = (ggE KkR rg1 c al).2 := e0.trans (ev_tail (m := .hid 0 :: rg1b) h)
    rw [neB_n h, cond_true, neB_n h, cond_true, z, neB_n h, cond_true]
end Bu
namespace Go.Proofs.YtmhhopfffeijnaaGreat
set_option linter.all false
open Go.RowKit Bu Rx

def rgO (c al : I) : Obs := [(decide (al.hi.k ≤ one64.k), true), (decide (minA.k ≤ al.lo.k), true), (decide (c.hi.k ≤ one64.k), true), (decide (z64.k ≤ c.lo.k), true), (rt al, true), (rt c, true)]
def t6 : List Bool := [true, true, true, true, true, true]
theorem rDRun0 (K : Kk) (c al : I) : valR ((run Tryz.prog EH (lookO (ORF K)) 80).1 86 [ivS c, ivS al] [] (some (t6 ++ [false]))) = some (.tup [ivS (gt (ggE K ggD c al).1 0), .i .i64 0], some [], (neB (ggE K ggD c al).2, false) :: rgO c al) := by kernel_rfl
theorem rDRun1 (K : Kk) (c al : I) : valR ((run Tryz.prog EH (lookO (ORF K)) 80).1 86 [ivS c, ivS al] [] (some (t6 ++ [true]))) = some (.tup [ivS I.zero, .si .i64 (ggE K ggD c al).2], some [], (neB (ggE K ggD c al).2, true) :: rgO c al) := by kernel_rfl
/-- the ends of what Lambda tells -/
def rgZ (K : Kk) (c al : I) (a b : Bool) : I := ⟨bif a then z64 else (rgX K c al).lo, bif b then z64 else (rgX K c al).hi⟩
theorem rLRun0 (K : Kk) (c al : I) (a b : Bool) : valR ((run Tryz.prog EH (lookO (ORF K)) 80).1 162 [ivS c, ivS al] [] (some (t6 ++ [false, a, b]))) = some (.tup [ivS (rgZ K c al a b), .i .i64 0], some [], (decide ((rgX K c al).hi.k < z64.k), b) :: (decide ((rgX K c al).lo.k < z64.k), a) :: (neB (ggE K rg1 c al).2, false) :: rgO c al) := by cases a <;> cases b <;> kernel_rfl
theorem rLRun1 (K : Kk) (c al : I) : valR ((run Tryz.prog EH (lookO (ORF K)) 80).1 162 [ivS c, ivS al] [] (some (t6 ++ [true]))) = some (.tup [ivS I.zero, .si .i64 (ggE K rg1 c al).2], some [], (neB (ggE K rg1 c al).2, true) :: rgO c al) := by kernel_rfl
def ORFL (K : Kk) (f : I → I → I × Int) : OracleF := lookO (ORF K ++ [(162, plainO (kGg f))])
theorem rGRun0 (K : Kk) (f : I → I → I × Int) (c al : I) : valR ((run Tryz.prog EH (ORFL K f) 80).1 85 [ivS c, ivS al] [] (some [false])) = some (.tup [ivS (gt (evalK K rg1b [(f c al).1] 0).1 0), .i .i64 0], some [], (neB (f c al).2, false) :: ggO c al) := by kernel_rfl
theorem rGRun1 (K : Kk) (f : I → I → I × Int) (c al : I) : valR ((run Tryz.prog EH (ORFL K f) 80).1 85 [ivS c, ivS al] [] (some [true])) = some (.tup [ivS I.zero, .si .i64 (f c al).2], some [], (neB (f c al).2, true) :: ggO c al) := by kernel_rfl
end Go.Proofs.YtmhhopfffeijnaaGreat
