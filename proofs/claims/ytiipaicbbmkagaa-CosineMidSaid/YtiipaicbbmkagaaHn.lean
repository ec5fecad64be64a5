/- CosineMid, by the reckoner. -/
import Derived.Test.YtiipaicbbmkagaaHm
namespace Go.Proofs.Ytiipaicbbmkagaa
set_option linter.all false
open Go.RowKit Bu Rx

/-- of any two words -/
def rtW (a b : Nat) : Bool := rightB a && (rightB b && decide ((toF a).k ≤ (toF b).k))
def kRtW (r : Nat → Nat → Bool) : List SV → Dec → Option (SV × Dec × Obs)
  | [.agg [.f a, .f b]], ds => (takeB ds (r a b)).map fun q => (.b q.1, q.2.1, (Nat.blt a 18446744073709551616, true) :: (Nat.blt b 18446744073709551616, true) :: q.2.2)
  | _, _ => none
theorem rwRun0 (a b : Nat) : valR ((run Try.prog EG OIR 60).1 26 [.agg [.f a, .f b]] [] (some [false])) = some (.b false, some [], [(Nat.blt a 18446744073709551616, true), (rightB a, false)]) := by kernel_rfl
theorem rwRun1 (a b : Nat) : valR ((run Try.prog EG OIR 60).1 26 [.agg [.f a, .f b]] [] (some [true, false])) = some (.b false, some [], [(Nat.blt b 18446744073709551616, true), (rightB b, false), (rightB a, true)]) := by kernel_rfl
theorem rightWG : PlainOk Try.prog 26 (kRtW rtW) := by
  intro args ds x ds' ob h ho
  unfold kRtW at h
  split at h
  · rename_i a b
    simp only [Option.map_eq_some_iff, Prod.mk.injEq] at h
    obtain ⟨⟨d, e, o⟩, h1, rfl, rfl, rfl⟩ := h
    have la : Nat.blt a 18446744073709551616 = true := ho _ (List.mem_cons_self ..)
    have lb : Nat.blt b 18446744073709551616 = true := ho (_, true) (List.mem_cons_of_mem _ (List.mem_cons_self ..))
    have hd : d = rtW a b := takeB_ok h1 (fun p hp => ho p (List.mem_cons_of_mem _ (List.mem_cons_of_mem _ hp)))
    refine ⟨[.agg #[.float .f64 a, .float .f64 b]], .bool d, rfl, rfl, fun w => ?_⟩
    unfold rtW at hd
    cases g1 : rightB a
    · rw [g1, Bool.false_and] at hd; subst hd
      exact calls_of_val goodG oracleIR 60 (rwRun0 a b) (ObsOk.of_B (obsB_yes la (obsB_yes g1 obsB_nil))) rfl rfl w
    · cases g2 : rightB b
      · rw [g1, g2, Bool.false_and, Bool.and_false] at hd; subst hd
        exact calls_of_val goodG oracleIR 60 (rwRun1 a b) (ObsOk.of_B (obsB_yes lb (obsB_yes g2 (obsB_yes g1 obsB_nil)))) rfl rfl w
      · rw [g1, g2, Bool.true_and, Bool.true_and] at hd
        obtain ⟨x, rfl⟩ := F_of_right g1
        obtain ⟨y, rfl⟩ := F_of_right g2
        rw [toF_F, toF_F] at hd
        exact calls_of_val goodG oracleIR 60 (irightRun x y d) (ObsOk.of_B (obsB_yes hd.symm obsB_nil)) rfl rfl w
  · cases h
def OCM (p : F → F → F → F → F → F → Bool) (md : F → F → F → F → F → F → F × F × F) (r : I → Bool) : OracleF := lookO [(38, plainO (kMid p md)), (26, plainO (kBI r)), (37, plainO (oConst (.b true)))]
theorem oracleCM : OracleOk Try.prog (OCM rt3 midM rt) := .cons midG.of (.cons irtK2.of (.cons awake12G.of (.nil _)))
def OCW (r : Nat → Nat → Bool) : OracleF := lookO [(26, plainO (kRtW r)), (37, plainO (oConst (.b true)))]
theorem oracleCW : OracleOk Try.prog (OCW rtW) := .cons rightWG.of (.cons awake12G.of (.nil _))
def inOb (l : Bool) (a b m : F) : Obs := [(decide (a.k ≤ m.k), true), (decide (m.k ≤ b.k), true), (decide (a.k < b.k), l)] ++ (bif l then [] else [(decide (m.k = a.k), true)])
def cmOb (p : F → F → F → F → F → F → Bool) (md : F → F → F → F → F → F → F × F × F) (r : I → Bool) (l1 l2 l3 : Bool) (a b c d e f : F) : Obs :=
  [(p a b c d e f, true), (r ⟨a, b⟩, true), (r ⟨c, d⟩, true), (r ⟨e, f⟩, true)] ++ inOb l1 a b (md a b c d e f).1 ++ inOb l2 c d (md a b c d e f).2.1 ++ inOb l3 e f (md a b c d e f).2.2
theorem cmRun (p : F → F → F → F → F → F → Bool) (md : F → F → F → F → F → F → F × F × F) (r : I → Bool) (l1 l2 l3 : Bool) (a b c d e f : F) : valR ((run Try.prog EG (OCM p md r) 60).1 9 [.agg [.fl a, .fl b, .fl c, .fl d, .fl e, .fl f]] [] (some ((cmOb p md r l1 l2 l3 a b c d e f).map (·.2)))) = some (.b true, some [], (cmOb p md r l1 l2 l3 a b c d e f).reverse) := by
  cases l1 <;> cases l2 <;> cases l3 <;> kernel_rfl
def wd2 (a b : Nat) : Obs := [(Nat.blt a 18446744073709551616, true), (Nat.blt b 18446744073709551616, true)]
theorem cwRun0 (r : Nat → Nat → Bool) (a b c d e f : Nat) : valR ((run Try.prog EG (OCW r) 60).1 9 [.agg [.f a, .f b, .f c, .f d, .f e, .f f]] [] (some [false, false, false])) = some (.b true, some [], [(false, false)] ++ wd2 a b ++ [(r a b, false)] ++ wd2 a b ++ [(r a b, false)]) := by kernel_rfl
theorem cwRun1 (r : Nat → Nat → Bool) (a b c d e f : Nat) : valR ((run Try.prog EG (OCW r) 60).1 9 [.agg [.f a, .f b, .f c, .f d, .f e, .f f]] [] (some [true, false, true, false, false])) = some (.b true, some [], [(false, false)] ++ wd2 c d ++ [(r c d, false)] ++ wd2 a b ++ [(r a b, true)] ++ wd2 c d ++ [(r c d, false)] ++ wd2 a b ++ [(r a b, true)]) := by kernel_rfl
theorem cwRun2 (r : Nat → Nat → Bool) (a b c d e f : Nat) : valR ((run Try.prog EG (OCW r) 60).1 9 [.agg [.f a, .f b, .f c, .f d, .f e, .f f]] [] (some [true, true, false, true, true, false, false])) = some (.b true, some [], [(false, false)] ++ wd2 e f ++ [(r e f, false)] ++ wd2 c d ++ [(r c d, true)] ++ wd2 a b ++ [(r a b, true)] ++ wd2 e f ++ [(r e f, false)] ++ wd2 c d ++ [(r c d, true)] ++ wd2 a b ++ [(r a b, true)]) := by kernel_rfl
theorem inOb_ok {a b : F} (h : rt ⟨a, b⟩ = true) : obsB (inOb (decide (a.k < b.k)) a b (midI a b)) = true := by
  obtain ⟨_, _, _, h1, h2⟩ := mid_no h
  have k1 : a.k ≤ (midI a b).k := q_le.1 h1
  have k2 : (midI a b).k ≤ b.k := q_le.1 h2
  exact obsB_both (obsB_yes (decide_eq_true k1) (obsB_yes (decide_eq_true k2) (obsB_yes rfl obsB_nil))) (obsB_bif (fun _ => obsB_nil) fun c => obsB_yes (decide_eq_true (by have := of_decide_eq_false c; omega)) obsB_nil)
theorem cosineMid_row (a b c d e f : Nat) (ha : a < 18446744073709551616) (hb : b < 18446744073709551616) (hc : c < 18446744073709551616) (hd : d < 18446744073709551616) (he : e < 18446744073709551616) (hf : f < 18446744073709551616) (w : World) :
    Calls Try.prog 9 #[.agg #[.float .f64 a, .float .f64 b, .float .f64 c, .float .f64 d, .float .f64 e, .float .f64 f]] w fun e w' => e = .returned (.bool true) ∧ Below w.heap.size w w' := by
  have W : ∀ {x y : Nat}, x < 18446744073709551616 → y < 18446744073709551616 → obsB (wd2 x y) = true := fun h1 h2 => obsB_yes (Nat.blt_eq.mpr h1) (obsB_yes (Nat.blt_eq.mpr h2) obsB_nil)
  have one : ∀ {c d : Bool}, c = d → obsB [(c, d)] = true := fun h => obsB_yes h obsB_nil
  cases g1 : rtW a b
  · exact calls_of_val goodG oracleCW 60 (cwRun0 rtW a b c d e f) (ObsOk.of_B (obsB_both (obsB_both (obsB_both (obsB_both (one rfl) (W ha hb)) (one g1)) (W ha hb)) (one g1))) rfl rfl w
  cases g2 : rtW c d
  · exact calls_of_val goodG oracleCW 60 (cwRun1 rtW a b c d e f) (ObsOk.of_B (obsB_both (obsB_both (obsB_both (obsB_both (obsB_both (obsB_both (obsB_both (obsB_both (one rfl) (W hc hd)) (one g2)) (W ha hb)) (one g1)) (W hc hd)) (one g2)) (W ha hb)) (one g1))) rfl rfl w
  cases g3 : rtW e f
  · exact calls_of_val goodG oracleCW 60 (cwRun2 rtW a b c d e f) (ObsOk.of_B (obsB_both (obsB_both (obsB_both (obsB_both (obsB_both (obsB_both (obsB_both (obsB_both (obsB_both (obsB_both (obsB_both (obsB_both (one rfl) (W he hf)) (one g3)) (W hc hd)) (one g2)) (W ha hb)) (one g1)) (W he hf)) (one g3)) (W hc hd)) (one g2)) (W ha hb)) (one g1))) rfl rfl w
  have R : ∀ {x y : Nat}, rtW x y = true → ∃ p q : F, p.b = x ∧ q.b = y ∧ rt ⟨p, q⟩ = true := by
    intro x y h
    unfold rtW at h
    rw [Bool.and_eq_true, Bool.and_eq_true] at h
    obtain ⟨h1, h2, h3⟩ := h
    obtain ⟨p, rfl⟩ := F_of_right h1
    obtain ⟨q, rfl⟩ := F_of_right h2
    rw [toF_F, toF_F] at h3
    exact ⟨p, q, rfl, rfl, h3⟩
  obtain ⟨p1, q1, rfl, rfl, r1⟩ := R g1
  obtain ⟨p2, q2, rfl, rfl, r2⟩ := R g2
  obtain ⟨p3, q3, rfl, rfl, r3⟩ := R g3
  have r : rt3 p1 q1 p2 q2 p3 q3 = true := by unfold rt3; rw [r1, r2, r3]; rfl
  refine calls_of_val goodG oracleCM 60 (cmRun rt3 midM rt (decide (p1.k < q1.k)) (decide (p2.k < q2.k)) (decide (p3.k < q3.k)) p1 q1 p2 q2 p3 q3) (ObsOk.of_B (obsB_rev ?_)) rfl rfl w
  exact obsB_both (obsB_both (obsB_both (obsB_yes r (obsB_yes r1 (obsB_yes r2 (obsB_yes r3 obsB_nil)))) (inOb_ok r1)) (inOb_ok r2)) (inOb_ok r3)
end Go.Proofs.Ytiipaicbbmkagaa
