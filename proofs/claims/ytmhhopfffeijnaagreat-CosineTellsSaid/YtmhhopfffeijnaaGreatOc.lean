/- CosineTells, by the reckoner. -/
import Derived.Test.YtmhhopfffeijnaaGreatOb
import Derived.Test.YtmhhopfffeijnaaGreatHn
namespace Go.Proofs.YtmhhopfffeijnaaGreat
set_option linter.all false
open Go.RowKit Bu Rx

theorem rrwRun0 (a b : Nat) : valR ((run Tryz.prog EH OQR 60).1 28 [.agg [.f a, .f b]] [] (some [false])) = some (.b false, some [], [(Nat.blt a 18446744073709551616, true), (rightB a, false)]) := by kernel_rfl
theorem rrwRun1 (a b : Nat) : valR ((run Tryz.prog EH OQR 60).1 28 [.agg [.f a, .f b]] [] (some [true, false])) = some (.b false, some [], [(Nat.blt b 18446744073709551616, true), (rightB b, false), (rightB a, true)]) := by kernel_rfl
theorem rrightWG : PlainOk Tryz.prog 28 (kRtW rtW) := by
  intro args ds x ds' ob h ho
  unfold kRtW at h
  split at h
  · rename_i a b
    simp only [Option.map_eq_some_iff, Prod.mk.injEq] at h
    obtain ⟨⟨d, e, o⟩, h1, rfl, rfl, rfl⟩ := h
    have la : Nat.blt a 18446744073709551616 = true := ho _ (List.mem_cons_self ..)
    have lb : Nat.blt b 18446744073709551616 = true := ho (_, true) (List.mem_cons_of_mem _ (List.mem_cons_self ..))
    have hd : d = rtW a b := takeB_ok h1 (fun p hp => ho p (List.mem_cons_of_mem _ (List.mem_cons_of_mem _ hp)))
    refine ⟨[.agg #[.float .f64 a, .float .f64 b]], .bool d, rfl, rfl, fun w => ?_⟩
    unfold rtW at hd
    cases g1 : rightB a
    · rw [g1, Bool.false_and] at hd; subst hd
      exact calls_of_val goodH oracleQR 60 (rrwRun0 a b) (ObsOk.of_B (obsB_yes la (obsB_yes g1 obsB_nil))) rfl rfl w
    · cases g2 : rightB b
      · rw [g1, g2, Bool.false_and, Bool.and_false] at hd; subst hd
        exact calls_of_val goodH oracleQR 60 (rrwRun1 a b) (ObsOk.of_B (obsB_yes lb (obsB_yes g2 (obsB_yes g1 obsB_nil)))) rfl rfl w
      · rw [g1, g2, Bool.true_and, Bool.true_and] at hd
        obtain ⟨x, rfl⟩ := F_of_right g1
        obtain ⟨y, rfl⟩ := F_of_right g2
        rw [toF_F, toF_F] at hd
        exact calls_of_val goodH oracleQR 60 (rrtRun x y d) (ObsOk.of_B (obsB_yes hd.symm obsB_nil)) rfl rfl w
  · cases h
def eqV (v : I × I × I) : Bool := (decide (v.1.lo.k = v.1.lo.k) && (decide (v.1.hi.k = v.1.hi.k) && true)) && ((decide (v.2.1.lo.k = v.2.1.lo.k) && (decide (v.2.1.hi.k = v.2.1.hi.k) && true)) && ((decide (v.2.2.lo.k = v.2.2.lo.k) && (decide (v.2.2.hi.k = v.2.2.hi.k) && true)) && true))
def eqM (m : F × F × F) : Bool := decide (m.1.k = m.1.k) && (decide (m.2.1.k = m.2.1.k) && (decide (m.2.2.k = m.2.2.k) && true))
theorem eqV_ok (v : I × I × I) : eqV v = true := by unfold eqV; simp
theorem eqM_ok (m : F × F × F) : eqM m = true := by unfold eqM; simp
def OCT (p : F → F → F → F → F → F → Bool) (md : F → F → F → F → F → F → F × F × F) (dv : Int → Int → I × I × I) (u : Int → Bool) : OracleF := lookO [(10, plainO (kDraw dv u)), (11, plainO (kDraw dv u)), (12, plainO (kMid p md)), (13, plainO (kMid p md)), (14, plainO (oConst (.b true)))]
theorem oracleCT : OracleOk Tryz.prog (OCT rt3 midM (dV (KqR atR)) uB) := .cons drawG.of (.cons rdrawG.of (.cons midG.of (.cons rmidG.of (.cons awake12G.of (.nil _)))))
def OCR2 (r : Nat → Nat → Bool) (dv : Int → Int → I × I × I) (u : Int → Bool) : OracleF := lookO [(10, plainO (kDraw dv u)), (11, plainO (kDraw dv u)), (23, plainO (kRtW r)), (28, plainO (kRtW r)), (14, plainO (oConst (.b true)))]
theorem oracleCR2 : OracleOk Tryz.prog (OCR2 rtW (dV (KqR atR)) uB) := .cons drawG.of (.cons rdrawG.of (.cons rightWG.of (.cons rrightWG.of (.cons awake12G.of (.nil _)))))
def dwO (u : Int → Bool) (a b : Int) : Obs := [(u a, true), (u b, true), (u a, true), (u b, true)]
theorem ctRun1 (p : F → F → F → F → F → F → Bool) (md : F → F → F → F → F → F → F × F × F) (dv : Int → Int → I × I × I) (u : Int → Bool) (u1 u2 : Int) (a b c d e f : F) : valR ((run Tryz.prog EH (OCT p md dv u) 80).1 4 [.si .u64 u1, .si .u64 u2, .agg [.fl a, .fl b, .fl c, .fl d, .fl e, .fl f]] [] (some [true, true, true, true])) =
    some (.b true, some [], (eqM (md a b c d e f), true) :: (eqV (dv u1 u2), true) :: (p a b c d e f, true) :: (p a b c d e f, true) :: dwO u u1 u2) := by kernel_rfl
def ctO (dv : Int → Int → I × I × I) (u1 u2 : Int) (o : Obs) : Obs := (true, true) :: (eqV (dv u1 u2), true) :: o
theorem ctRun2 (r : Nat → Nat → Bool) (dv : Int → Int → I × I × I) (u : Int → Bool) (u1 u2 : Int) (a b c d e f : Nat) : valR ((run Tryz.prog EH (OCR2 r dv u) 80).1 4 [.si .u64 u1, .si .u64 u2, .agg [.f a, .f b, .f c, .f d, .f e, .f f]] [] (some [false, false, true, true])) =
    some (.b true, some [], ctO dv u1 u2 (wd2 a b ++ [(r a b, false)] ++ wd2 a b ++ [(r a b, false)] ++ dwO u u1 u2)) := by kernel_rfl
theorem ctRun3 (r : Nat → Nat → Bool) (dv : Int → Int → I × I × I) (u : Int → Bool) (u1 u2 : Int) (a b c d e f : Nat) : valR ((run Tryz.prog EH (OCR2 r dv u) 80).1 4 [.si .u64 u1, .si .u64 u2, .agg [.f a, .f b, .f c, .f d, .f e, .f f]] [] (some [true, false, true, false, true, true])) =
    some (.b true, some [], ctO dv u1 u2 (wd2 c d ++ [(r c d, false)] ++ wd2 a b ++ [(r a b, true)] ++ wd2 c d ++ [(r c d, false)] ++ wd2 a b ++ [(r a b, true)] ++ dwO u u1 u2)) := by kernel_rfl
theorem ctRun4 (r : Nat → Nat → Bool) (dv : Int → Int → I × I × I) (u : Int → Bool) (u1 u2 : Int) (a b c d e f : Nat) : valR ((run Tryz.prog EH (OCR2 r dv u) 80).1 4 [.si .u64 u1, .si .u64 u2, .agg [.f a, .f b, .f c, .f d, .f e, .f f]] [] (some [true, true, false, true, true, false, true, true])) =
    some (.b true, some [], ctO dv u1 u2 (wd2 e f ++ [(r e f, false)] ++ wd2 c d ++ [(r c d, true)] ++ wd2 a b ++ [(r a b, true)] ++ wd2 e f ++ [(r e f, false)] ++ wd2 c d ++ [(r c d, true)] ++ wd2 a b ++ [(r a b, true)] ++ dwO u u1 u2)) := by kernel_rfl
theorem cosineTells_row (u1 u2 : Int) (a b c d e f : Nat) (hu : (Lit.int .u64 u1).wf = true) (hv : (Lit.int .u64 u2).wf = true) (ha : a < 18446744073709551616) (hb : b < 18446744073709551616) (hc : c < 18446744073709551616) (hd : d < 18446744073709551616) (he : e < 18446744073709551616) (hf : f < 18446744073709551616) (w : World) :
    Calls Tryz.prog 4 #[.int .u64 u1, .int .u64 u2, .agg #[.float .f64 a, .float .f64 b, .float .f64 c, .float .f64 d, .float .f64 e, .float .f64 f]] w fun e w' => e = .returned (.bool true) ∧ Below w.heap.size w w' := by
  have g1 := u64_in hu
  have g2 := u64_in hv
  have b1 : uB u1 = true := decide_eq_true g1
  have b2 : uB u2 = true := decide_eq_true g2
  have hD : obsB (dwO uB u1 u2) = true := obsB_yes b1 (obsB_yes b2 (obsB_yes b1 (obsB_yes b2 obsB_nil)))
  have W : ∀ {x y : Nat}, x < 18446744073709551616 → y < 18446744073709551616 → obsB (wd2 x y) = true := fun h1 h2 => obsB_yes (Nat.blt_eq.mpr h1) (obsB_yes (Nat.blt_eq.mpr h2) obsB_nil)
  have one : ∀ {c d : Bool}, c = d → obsB [(c, d)] = true := fun h => obsB_yes h obsB_nil
  have hV := eqV_ok (dV (KqR atR) u1 u2)
  cases g1 : rtW a b
  · exact calls_of_val goodH oracleCR2 80 (ctRun2 rtW (dV (KqR atR)) uB u1 u2 a b c d e f) (ObsOk.of_B (obsB_yes rfl (obsB_yes hV (obsB_both (obsB_both (obsB_both (obsB_both (W ha hb) (one g1)) (W ha hb)) (one g1)) hD)))) rfl rfl w
  cases g2 : rtW c d
  · exact calls_of_val goodH oracleCR2 80 (ctRun3 rtW (dV (KqR atR)) uB u1 u2 a b c d e f) (ObsOk.of_B (obsB_yes rfl (obsB_yes hV (obsB_both (obsB_both (obsB_both (obsB_both (obsB_both (obsB_both (obsB_both (obsB_both (W hc hd) (one g2)) (W ha hb)) (one g1)) (W hc hd)) (one g2)) (W ha hb)) (one g1)) hD)))) rfl rfl w
  cases g3 : rtW e f
  · exact calls_of_val goodH oracleCR2 80 (ctRun4 rtW (dV (KqR atR)) uB u1 u2 a b c d e f) (ObsOk.of_B (obsB_yes rfl (obsB_yes hV (obsB_both (obsB_both (obsB_both (obsB_both (obsB_both (obsB_both (obsB_both (obsB_both (obsB_both (obsB_both (obsB_both (obsB_both (W he hf) (one g3)) (W hc hd)) (one g2)) (W ha hb)) (one g1)) (W he hf)) (one g3)) (W hc hd)) (one g2)) (W ha hb)) (one g1)) hD)))) rfl rfl w
  have R : ∀ {x y : Nat}, rtW x y = true → ∃ p q : F, p.b = x ∧ q.b = y ∧ rt ⟨p, q⟩ = true := by
    intro x y h
    unfold rtW at h
    rw [Bool.and_eq_true, Bool.and_eq_true] at h
    obtain ⟨h1, h2, h3⟩ := h
    obtain ⟨p, rfl⟩ := F_of_right h1
    obtain ⟨q, rfl⟩ := F_of_right h2
    rw [toF_F, toF_F] at h3
    exact ⟨p, q, rfl, rfl, h3⟩
  obtain ⟨p1, q1, rfl, rfl, r1⟩ := R g1
  obtain ⟨p2, q2, rfl, rfl, r2⟩ := R g2
  obtain ⟨p3, q3, rfl, rfl, r3⟩ := R g3
  have r : rt3 p1 q1 p2 q2 p3 q3 = true := by unfold rt3; rw [r1, r2, r3]; rfl
  exact calls_of_val goodH oracleCT 80 (ctRun1 rt3 midM (dV (KqR atR)) uB u1 u2 p1 q1 p2 q2 p3 q3) (ObsOk.of_B (obsB_yes (eqM_ok _) (obsB_yes hV (obsB_yes r (obsB_yes r hD))))) rfl rfl w
end Go.Proofs.YtmhhopfffeijnaaGreat
