/- Package cosine by the reckoner: Mid; the examples of layer 12; CosineFalls. -/
import Derived.Test.YtiipaicbbmkagaaHl
import Derived.Test.YtiipaicbbmkagaaIj
import Derived.Test.YtiipaicbbmkagaaRw
namespace Go.Proofs.Ytiipaicbbmkagaa
set_option linter.all false
open Go.RowKit Bu Rx

def OMI (r : I → Bool) (fs fm fa : Bool → F → F → F × Int) : OracleF := lookO [(26, plainO (kBI r)), (43, plainO (kTwo fs)), (44, plainO (kTwo fm)), (45, plainO (kTwo fa))]
theorem irtK2 : PlainOk Try.prog 26 (kBI rt) := irightG
theorem oracleMI : OracleOk Try.prog (OMI rt dSub dMul dAdd) := .cons irtK2.of (.cons (two_ok sub_F_w).of (.cons (two_ok mul_F_w).of (.cons (two_ok add_F_w).of (.nil _))))
def noMid : SV := .tup [.agg [.fl F.zero, .fl F.zero, .fl F.zero], .i .i64 20]
theorem miRun0 (r : I → Bool) (fs fm fa : Bool → F → F → F × Int) (a b c d e f : F) : valR ((run Try.prog EG (OMI r fs fm fa) 80).1 38 [.agg [.fl a, .fl b, .fl c, .fl d, .fl e, .fl f]] [] (some [false])) = some (noMid, some [], [(r ⟨a, b⟩, false)]) := by kernel_rfl
theorem miRun1 (r : I → Bool) (fs fm fa : Bool → F → F → F × Int) (a b c d e f : F) : valR ((run Try.prog EG (OMI r fs fm fa) 80).1 38 [.agg [.fl a, .fl b, .fl c, .fl d, .fl e, .fl f]] [] (some [true, false])) = some (noMid, some [], [(r ⟨c, d⟩, false), (r ⟨a, b⟩, true)]) := by kernel_rfl
theorem miRun2 (r : I → Bool) (fs fm fa : Bool → F → F → F × Int) (a b c d e f : F) : valR ((run Try.prog EG (OMI r fs fm fa) 80).1 38 [.agg [.fl a, .fl b, .fl c, .fl d, .fl e, .fl f]] [] (some [true, true, false])) = some (noMid, some [], [(r ⟨e, f⟩, false), (r ⟨c, d⟩, true), (r ⟨a, b⟩, true)]) := by kernel_rfl
def m1 (fs : Bool → F → F → F × Int) (a b : F) : F × Int := fs false b a
def m2 (fs fm : Bool → F → F → F × Int) (a b : F) : F × Int := fm false q2 (m1 fs a b).1
def m3 (fs fm fa : Bool → F → F → F × Int) (a b : F) : F × Int := fa false a (m2 fs fm a b).1
def obM (fs fm fa : Bool → F → F → F × Int) (a b : F) : Obs := [(decide ((m3 fs fm fa a b).2 = 0), true), (decide ((m2 fs fm a b).2 = 0), true), (decide ((m1 fs a b).2 = 0), true)]
theorem miRun3 (r : I → Bool) (fs fm fa : Bool → F → F → F × Int) (a b c d e f : F) : valR ((run Try.prog EG (OMI r fs fm fa) 80).1 38 [.agg [.fl a, .fl b, .fl c, .fl d, .fl e, .fl f]] [] (some [true, true, true, true, true, true, true, true, true, true, true, false])) =
    some (.tup [.agg [.fl (m3 fs fm fa a b).1, .fl (m3 fs fm fa c d).1, .fl (m3 fs fm fa e f).1], .i .i64 0], some [],
      [(!((m3 fs fm fa e f).2 == 0), false), (decide ((m2 fs fm e f).2 = 0), true), (decide ((m1 fs e f).2 = 0), true)] ++ obM fs fm fa c d ++ obM fs fm fa a b ++ [(r ⟨e, f⟩, true), (r ⟨c, d⟩, true), (r ⟨a, b⟩, true)]) := by kernel_rfl
theorem mid_no {a b : F} (h : rt ⟨a, b⟩ = true) : (m1 dSub a b).2 = 0 ∧ (m2 dSub dMul a b).2 = 0 ∧ (m3 dSub dMul dAdd a b).2 = 0 ∧ a.q ≤ (m3 dSub dMul dAdd a b).1.q ∧ (m3 dSub dMul dAdd a b).1.q ≤ b.q := by
  have hq := q_le.2 (of_decide_eq_true h)
  simp only at hq
  have k2 := consts.2.2.2.2.2.1
  obtain ⟨r1, e1, h1⟩ := @dSub_dn b a F.zero (by rw [q_zero]; grind)
  have g1 : 0 ≤ r1.q := by rw [← q_zero]; exact h1.top F.zero (by rw [q_zero]; grind)
  have p1 : 0 ≤ q2.q * r1.q := Rat.mul_nonneg (by grind) g1
  obtain ⟨r2, e2, h2⟩ := @dMul_dn q2 r1 F.zero (by rw [q_zero]; exact p1)
  have g2 : 0 ≤ r2.q := by rw [← q_zero]; exact h2.top F.zero (by rw [q_zero]; exact p1)
  obtain ⟨r3, e3, h3⟩ := @dAdd_dn a r2 a (by grind)
  have f1 : m1 dSub a b = (r1, 0) := e1
  have f2 : m2 dSub dMul a b = (r2, 0) := by unfold m2; rw [f1]; exact e2
  have f3 : m3 dSub dMul dAdd a b = (r3, 0) := by unfold m3; rw [f2]; exact e3
  rw [f1, f2, f3]
  refine ⟨rfl, rfl, rfl, h3.top a (by grind), ?_⟩
  have l1 := h1.le; have l2 := h2.le; have l3 := h3.le
  have e : q2.q = 1 / 2 := by grind
  rw [e] at l2
  show r3.q ≤ b.q
  grind
theorem midG : PlainOk Try.prog 38 (kMid rt3 midM) := by
  intro args ds x ds' ob h ho
  unfold kMid at h
  split at h
  · rename_i a b c d e f
    simp only [Option.map_eq_some_iff, Prod.mk.injEq] at h
    obtain ⟨⟨r, ee, o⟩, h1, rfl, rfl, rfl⟩ := h
    have hd : r = rt3 a b c d e f := takeB_ok h1 ho
    refine ⟨[.agg #[.float .f64 a.b, .float .f64 b.b, .float .f64 c.b, .float .f64 d.b, .float .f64 e.b, .float .f64 f.b]], ?_⟩
    unfold rt3 at hd
    cases g1 : rt ⟨a, b⟩
    · rw [g1, Bool.false_and] at hd; subst hd
      exact ⟨_, rfl, rfl, fun w => calls_of_val goodG oracleMI 80 (miRun0 rt dSub dMul dAdd a b c d e f) (ObsOk.of_B (obsB_yes g1 obsB_nil)) rfl rfl w⟩
    · cases g2 : rt ⟨c, d⟩
      · rw [g1, g2, Bool.false_and, Bool.and_false] at hd; subst hd
        exact ⟨_, rfl, rfl, fun w => calls_of_val goodG oracleMI 80 (miRun1 rt dSub dMul dAdd a b c d e f) (ObsOk.of_B (obsB_yes g2 (obsB_yes g1 obsB_nil))) rfl rfl w⟩
      · cases g3 : rt ⟨e, f⟩
        · rw [g1, g2, g3, Bool.true_and, Bool.true_and] at hd; subst hd
          exact ⟨_, rfl, rfl, fun w => calls_of_val goodG oracleMI 80 (miRun2 rt dSub dMul dAdd a b c d e f) (ObsOk.of_B (obsB_yes g3 (obsB_yes g2 (obsB_yes g1 obsB_nil)))) rfl rfl w⟩
        · rw [g1, g2, g3, Bool.true_and, Bool.true_and] at hd; subst hd
          obtain ⟨a1, a2, a3, _⟩ := mid_no g1
          obtain ⟨b1, b2, b3, _⟩ := mid_no g2
          obtain ⟨c1, c2, c3, _⟩ := mid_no g3
          refine ⟨_, rfl, rfl, fun w => calls_of_val goodG oracleMI 80 (miRun3 rt dSub dMul dAdd a b c d e f) (ObsOk.of_B ?_) rfl rfl w⟩
          have y : ∀ {n : Int}, n = 0 → decide (n = 0) = true := fun h => decide_eq_true h
          exact obsB_yes (by rw [c3]; rfl) (obsB_yes (y c2) (obsB_yes (y c1) (obsB_yes (y b3) (obsB_yes (y b2) (obsB_yes (y b1) (obsB_yes (y a3) (obsB_yes (y a2) (obsB_yes (y a1) (obsB_yes g3 (obsB_yes g2 (obsB_yes g1 obsB_nil)))))))))))
  · cases h
/-! the examples -/
def OA2 (p : F → F → F → F → F → F → Bool) (md : F → F → F → F → F → F → F × F × F) (dv : Int → Int → I × I × I) (u : Int → Bool) : OracleF := lookO [(34, plainO (kDraw dv u)), (38, plainO (kMid p md))]
theorem oracleA2 : OracleOk Try.prog (OA2 rt3 midM (dV (KqR atR)) uB) := .cons drawG.of (.cons midG.of (.nil _))
theorem aw12Run (p : F → F → F → F → F → F → Bool) (md : F → F → F → F → F → F → F × F × F) (dv : Int → Int → I × I × I) (u : Int → Bool) : valR ((run Try.prog EG (OA2 p md dv u) 80).1 37 [] [] (some [true, true, true, true, true, true, true, true, true, true, true, true])) = some (.b true, some [], aw12 p md dv u) := by kernel_rfl
theorem awake12G : PlainOk Try.prog 37 (oConst (.b true)) := constG rfl fun w => calls_of_val goodG oracleA2 80 (aw12Run rt3 midM (dV (KqR atR)) uB) (ObsOk.of_B aw12_ok) rfl rfl w
/-! falls -/
def OCF (dv : Int → Int → I × I × I) (u : Int → Bool) (sqr : Int → I → I × Int) (add : Int → I → I → I × Int) : OracleF := lookO [(34, plainO (kDraw dv u)), (37, plainO (oConst (.b true))), (24, kC (aII add)), (25, kC (aI sqr))]
theorem oracleCF : OracleOk Try.prog (OCF (dV (KqR atR)) uB KTR.sqr KTR.add) := .cons drawG.of (.cons awake12G.of (.cons addC (.cons sqrC (.nil _))))
def fl2 (dv : Int → Int → I × I × I) (sqr : Int → I → I × Int) (add : Int → I → I → I × Int) (e : Int) (a b : Int) : I × Int :=
  add (sqr (sqr e (dv a b).1).2 (dv a b).2.1).2 (sqr e (dv a b).1).1 (sqr (sqr e (dv a b).1).2 (dv a b).2.1).1
def mnI (a b : Int) : Int := if b < a then b else a
def mxI (a b : Int) : Int := if b > a then b else a
theorem cfRun (dv : Int → Int → I × I × I) (u : Int → Bool) (sqr : Int → I → I × Int) (add : Int → I → I → I × Int) (a b c : Int) : valR ((run Try.prog EG (OCF dv u sqr add) 80).1 8 [.si .u64 a, .si .u64 b, .si .u64 c] [] (some [true, true, true, true])) =
    some (.b true, some [], [(decide ((fl2 dv sqr add 0 (mnI a b) c).1.lo.k ≤ (fl2 dv sqr add (fl2 dv sqr add 0 (mnI a b) c).2 (mxI a b) c).1.hi.k), true), (decide ((dv (mxI a b) c).2.2.hi.k ≤ (dv (mnI a b) c).2.2.hi.k), true), (decide ((dv (mxI a b) c).2.2.lo.k ≤ (dv (mnI a b) c).2.2.lo.k), true),
      (decide ((fl2 dv sqr add (fl2 dv sqr add 0 (mnI a b) c).2 (mxI a b) c).2 = 0), true), (u (mxI a b), true), (u c, true), (u (mnI a b), true), (u c, true)]) := by kernel_rfl
theorem cosineFalls_row (a b c : Int) (ha : (Lit.int .u64 a).wf = true) (hb : (Lit.int .u64 b).wf = true) (hc : (Lit.int .u64 c).wf = true) (w : World) :
    Calls Try.prog 8 #[.int .u64 a, .int .u64 b, .int .u64 c] w fun e w' => e = .returned (.bool true) ∧ Below w.heap.size w w' := by
  have ga := u64_in ha
  have gb := u64_in hb
  have gc := u64_in hc
  have l0 : 0 ≤ mnI a b ∧ mnI a b ≤ mxI a b ∧ mxI a b ≤ 18446744073709551615 := by unfold mnI mxI; split <;> split <;> omega
  have hz := fall_z (b := c) l0.1 l0.2.1 l0.2.2
  obtain ⟨x, e1, x1, x2⟩ := flat_ok l0.1 (by omega) gc.1 gc.2
  obtain ⟨y, e2, y1, y2⟩ := flat_ok (a := mxI a b) (by omega) l0.2.2 gc.1 gc.2
  have f1 : fl2 (dV (KqR atR)) KTR.sqr KTR.add 0 (mnI a b) c = (x, 0) := e1
  have f2 : fl2 (dV (KqR atR)) KTR.sqr KTR.add 0 (mxI a b) c = (y, 0) := e2
  have hm := unI_mono l0.1 l0.2.1 l0.2.2
  have hu := (unI_U (mnI a b) l0.1 (by omega)).rt
  have hr := cfRun (dV (KqR atR)) uB KTR.sqr KTR.add a b c
  rw [f1] at hr
  simp only [f2] at hr
  have u1 : ∀ n : Int, 0 ≤ n → n ≤ 18446744073709551615 → uB n = true := fun n h1 h2 => decide_eq_true ⟨h1, h2⟩
  exact calls_of_val goodG oracleCF 80 hr (ObsOk.of_B (obsB_yes (decide_eq_true (q_le.1 (by grind))) (obsB_yes (decide_eq_true hz.2) (obsB_yes (decide_eq_true hz.1) (obsB_yes (by rfl) (obsB_yes (u1 _ (by omega) l0.2.2) (obsB_yes (u1 c gc.1 gc.2) (obsB_yes (u1 _ l0.1 (by omega)) (obsB_yes (u1 c gc.1 gc.2) obsB_nil))))))))) rfl rfl w
end Go.Proofs.Ytiipaicbbmkagaa
