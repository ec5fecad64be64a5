/- Package cosine by the reckoner: Mid; the examples of layer 12; CosineFalls. -/
import Derived.Test.YtmhhopfffeijnaaGreatHl
import Derived.Test.YtmhhopfffeijnaaGreatIj
import Derived.Test.YtmhhopfffeijnaaGreatRv
namespace Go.Proofs.YtmhhopfffeijnaaGreat
set_option linter.all false
open Go.RowKit Bu Rx

def OMI (r : I → Bool) (fs fm fa : Bool → F → F → F × Int) : OracleF := lookO [(23, plainO (kBI r)), (52, plainO (kTwo fs)), (53, plainO (kTwo fm)), (54, plainO (kTwo fa))]
theorem irtK2 : PlainOk Tryz.prog 23 (kBI rt) := irightG
theorem oracleMI : OracleOk Tryz.prog (OMI rt dSub dMul dAdd) := .cons irtK2.of (.cons (two_ok sub_F_w).of (.cons (two_ok mul_F_w).of (.cons (two_ok add_F_w).of (.nil _))))
def noMid : SV := .tup [.agg [.fl F.zero, .fl F.zero, .fl F.zero], .i .i64 20]
theorem miRun0 (r : I → Bool) (fs fm fa : Bool → F → F → F × Int) (a b c d e f : F) : valR ((run Tryz.prog EG (OMI r fs fm fa) 80).1 12 [.agg [.fl a, .fl b, .fl c, .fl d, .fl e, .fl f]] [] (some [false])) = some (noMid, some [], [(r ⟨a, b⟩, false)]) := by kernel_rfl
theorem miRun1 (r : I → Bool) (fs fm fa : Bool → F → F → F × Int) (a b c d e f : F) : valR ((run Tryz.prog EG (OMI r fs fm fa) 80).1 12 [.agg [.fl a, .fl b, .fl c, .fl d, .fl e, .fl f]] [] (some [true, false])) = some (noMid, some [], [(r ⟨c, d⟩, false), (r ⟨a, b⟩, true)]) := by kernel_rfl
theorem miRun2 (r : I → Bool) (fs fm fa : Bool → F → F → F × Int) (a b c d e f : F) : valR ((run Tryz.prog EG (OMI r fs fm fa) 80).1 12 [.agg [.fl a, .fl b, .fl c, .fl d, .fl e, .fl f]] [] (some [true, true, false])) = some (noMid, some [], [(r ⟨e, f⟩, false), (r ⟨c, d⟩, true), (r ⟨a, b⟩, true)]) := by kernel_rfl
def m1 (fs : Bool → F → F → F × Int) (a b : F) : F × Int := fs false b a
def m2 (fs fm : Bool → F → F → F × Int) (a b : F) : F × Int := fm false q2 (m1 fs a b).1
def m3 (fs fm fa : Bool → F → F → F × Int) (a b : F) : F × Int := fa false a (m2 fs fm a b).1
def obM (fs fm fa : Bool → F → F → F × Int) (a b : F) : Obs := [(decide ((m3 fs fm fa a b).2 = 0), true), (decide ((m2 fs fm a b).2 = 0), true), (decide ((m1 fs a b).2 = 0), true)]
theorem miRun3 (r : I → Bool) (fs fm fa : Bool → F → F → F × Int) (a b c d e f : F) : valR ((run Tryz.prog EG (OMI r fs fm fa) 80).1 12 [.agg [.fl a, .fl b, .fl c, .fl d, .fl e, .fl f]] [] (some [true, true, true, true, true, true, true, true, true, true, true, false])) =
    some (.tup [.agg [.fl (m3 fs fm fa a b).1, .fl (m3 fs fm fa c d).1, .fl (m3 fs fm fa e f).1], .i .i64 0], some [],
      [(!((m3 fs fm fa e f).2 == 0), false), (decide ((m2 fs fm e f).2 = 0), true), (decide ((m1 fs e f).2 = 0), true)] ++ obM fs fm fa c d ++ obM fs fm fa a b ++ [(r ⟨e, f⟩, true), (r ⟨c, d⟩, true), (r ⟨a, b⟩, true)]) := by kernel_rfl
theorem mid_no {a b : F} (h : rt ⟨a, b⟩ = true) : (m1 dSub a b).2 = 0 ∧ (m2 dSub dMul a b).2 = 0 ∧ (m3 dSub dMul dAdd a b).2 = 0 ∧ a.q ≤ (m3 dSub dMul dAdd a b).1.q ∧ (m3 dSub dMul dAdd a b).1.q ≤ b.q := by
  have hq := q_le.2 (of_decide_eq_true h)
  simp only at hq
  have k2 := consts.2.2.2.2.2.1
  obtain ⟨r1, e1, h1⟩ := @dSub_dn b a F.zero (by rw [q_zero]; grind)
  have g1 : 0 ≤ r1.q := by rw [← q_zero]; exact h1.top F.zero (by rw [q_zero]; grind)
  have p1 : 0 ≤ q2.q * r1.q := Rat.mul_nonneg (by grind) g1
  obtain ⟨r2, e2, h2⟩ := @dMul_dn q2 r1 F.zero (by rw [q_zero]; exact p1)
  have g2 : 0 ≤ r2.q := by rw [← q_zero]; exact h2.top F.zero (by rw [q_zero]; exact p1)
  obtain ⟨r3, e3, h3⟩ := @dAdd_dn a r2 a (by grind)
  have f1 : m1 dSub a b = (r1, 0) := e1
  have f2 : m2 dSub dMul a b = (r2, 0) := by unfold m2; rw [f1]; exact e2
  have f3 : m3 dSub dMul dAdd a b = (r3, 0) := by unfold m3; rw [f2]; exact e3
  rw [f1, f2, f3]
  refine ⟨rfl, rfl, rfl, h3.top a (by grind), ?_⟩
  have l1 := h1.le; have l2 := h2.le; have l3 := h3.le
  have e : q2.q = 1 / 2 := by grind
  rw [e] at l2
  show r3.q ≤ b.q
  grind
theorem midG : PlainOk Tryz.prog 12 (kMid rt3 midM) := by
  intro args ds x ds' ob h ho
  unfold kMid at h
  split at h
  · rename_i a b c d e f
    simp only [Option.map_eq_some_iff, Prod.mk.injEq] at h
    obtain ⟨⟨r, ee, o⟩, h1, rfl, rfl, rfl⟩ := h
    have hd : r = rt3 a b c d e f := takeB_ok h1 ho
    refine ⟨[.agg #[.float .f64 a.b, .float .f64 b.b, .float .f64 c.b, .float .f64 d.b, .float .f64 e.b, .float .f64 f.b]], ?_⟩
    unfold rt3 at hd
    cases g1 : rt ⟨a, b⟩
    · rw [g1, Bool.false_and] at hd; subst hd
      exact ⟨_, rfl, rfl, fun w => calls_of_val goodG oracleMI 80 (miRun0 rt dSub dMul dAdd a b c d e f) (ObsOk.of_B (obsB_yes g1 obsB_nil)) rfl rfl w⟩
    · cases g2 : rt ⟨c, d⟩
      · rw [g1, g2, Bool.false_and, Bool.and_false] at hd; subst hd
        exact ⟨_, rfl, rfl, fun w => calls_of_val goodG oracleMI 80 (miRun1 rt dSub dMul dAdd a b c d e f) (ObsOk.of_B (obsB_yes g2 (obsB_yes g1 obsB_nil))) rfl rfl w⟩
      · cases g3 : rt ⟨e, f⟩
        · rw [g1, g2, g3, Bool.true_and, Bool.true_and] at hd; subst hd
          exact ⟨_, rfl, rfl, fun w => calls_of_val goodG oracleMI 80 (miRun2 rt dSub dMul dAdd a b c d e f) (ObsOk.of_B (obsB_yes g3 (obsB_yes g2 (obsB_yes g1 obsB_nil)))) rfl rfl w⟩
        · rw [g1, g2, g3, Bool.true_and, Bool.true_and] at hd; subst hd
          obtain ⟨a1, a2, a3, _⟩ := mid_no g1
          obtain ⟨b1, b2, b3, _⟩ := mid_no g2
          obtain ⟨c1, c2, c3, _⟩ := mid_no g3
          refine ⟨_, rfl, rfl, fun w => calls_of_val goodG oracleMI 80 (miRun3 rt dSub dMul dAdd a b c d e f) (ObsOk.of_B ?_) rfl rfl w⟩
          have y : ∀ {n : Int}, n = 0 → decide (n = 0) = true := fun h => decide_eq_true h
          exact obsB_yes (by rw [c3]; rfl) (obsB_yes (y c2) (obsB_yes (y c1) (obsB_yes (y b3) (obsB_yes (y b2) (obsB_yes (y b1) (obsB_yes (y a3) (obsB_yes (y a2) (obsB_yes (y a1) (obsB_yes g3 (obsB_yes g2 (obsB_yes g1 obsB_nil)))))))))))
  · cases h
end Go.Proofs.YtmhhopfffeijnaaGreat
