/- VndfTurned: the walk, joined. -/
import Derived.Test.YtoafllcnnhhebaaGreatKv
import Derived.Test.YtoafllcnnhhebaaGreatKx
import Derived.Test.YtoafllcnnhhebaaGreatLc
namespace Go.Proofs.YtoafllcnnhhebaaGreat
set_option linter.all false
open Go.RowKit Bu Rx

theorem eqZ_t {x : I} : eqZ x = true ↔ x.lo.k = 0 ∧ x.hi.k = 0 := by
  have z : (toF 0).k = 0 := by decide +kernel
  unfold eqZ
  rw [z, Bool.and_eq_true, Bool.and_eq_true, decide_eq_true_eq, decide_eq_true_eq]
  exact ⟨fun h => ⟨h.1, h.2.1⟩, fun h => ⟨h.1, h.2, rfl⟩⟩
theorem vtO2_ok {a b c v d e : Int} {n m : V3} {r s : Int} {l z : Obs} (hB : obsB (vtB WR a b c v d e) = true) (h : VtP (oneV WR a b c) n m (alF WR v)) (hr : r = 0) (hs : s = 0) (hl : obsB l = true) (hz : obsB z = true) : obsB (vtO2 WR a b c v d e n m r s l z) = true := by
  have hv := oneV_ok a b c
  have ht := trV_eq hv
  have ha := alF_ok v
  subst hr; subst hs
  unfold vtO2
  rw [ht]
  have me : WR.me (WR.dn (oneV WR a b c) n (alF WR v)).1 (WR.dn ⟨turnI (oneV WR a b c).y, (oneV WR a b c).x, (oneV WR a b c).z⟩ m (alF WR v)).1 = true := by
    show meetsB (dnR KkR _ _ _).1 (dnR KkR _ _ _).1 = true
    rw [h.d]; exact meets_self h.r
  have mz : WR.me n.z m.z = true := by rw [h.z]; exact meets_self (in1_rt h.pn.z)
  exact obsB_yes me (ob2 hl (obsB_yes mz (obsB_yes (decide_eq_true (by rw [show WR.K.neg 0 (oneV WR a b c).y = _ from neg_mk (in1_rt hv.y)])) (obsB_yes (decide_eq_true h.e') (obsB_yes (decide_eq_true h.e) (ob2 hz (ob2 (dnO_ok (turn_P hv) h.pm ha) (ob2 (dnO_ok hv h.pn ha) (obsB_yes rfl (obsB_yes rfl hB))))))))))
theorem vtL_ok {v n m : V3} {al : I} {e : Int} (he : e = 0) (h : VtP v n m al) (hn : ¬ ((v.x.lo.k = 0 ∧ v.x.hi.k = 0) ∧ v.y.lo.k = 0 ∧ v.y.hi.k = 0)) : obsB (vtL WR e n m) = true := by
  obtain ⟨e1, e2⟩ := h.t hn
  subst he
  refine obsB_yes ?_ (obsB_yes ?_ obsB_nil)
  · rw [e2]; exact meets_self (in1_rt h.pn.x)
  · rw [show WR.K.neg 0 n.y = _ from neg_mk (in1_rt h.pn.y), e1]
    exact meets_self (in1_rt (turn_in1 h.pn.y))
theorem vndfTurned_row (a b c v d e : Int) (ha : (Lit.int .u32 a).wf = true) (hb : (Lit.int .u32 b).wf = true) (hc : (Lit.int .u32 c).wf = true) (hv : (Lit.int .u32 v).wf = true) (hd : (Lit.int .u64 d).wf = true) (he : (Lit.int .u64 e).wf = true) (w : World) :
    Calls Tryz.prog 6 #[.agg #[.int .u32 a, .int .u32 b, .int .u32 c], .int .u32 v, .int .u64 d, .int .u64 e] w fun e w' => e = .returned (.bool true) ∧ Below w.heap.size w w' := by
  have ha' := u32_13 ha
  have hb' := u32_13 hb
  have hc' := u32_13 hc
  have hw' := u32_13 hv
  have hd' : u64w d := u64_13 hd
  have he' : u64w e := u64_13 he
  have hB := vtB_ok ha' hb' hc' hw' hd' he'
  have h1 := oneV_ok a b c
  have hal := alF_ok v
  have er := dr_er h1 hal hd' he'
  have er2 := dr_er (turn_P h1) hal hd' he'
  have e1 : WR.vd (oneV WR a b c) (alF WR v) d e = drR KkR (envR (oneV WR a b c) (alF WR v) d e) := rfl
  have e2 : WR.vd (trV WR (oneV WR a b c)) (alF WR v) d e = drR KkR (envR ⟨turnI (oneV WR a b c).y, (oneV WR a b c).x, (oneV WR a b c).z⟩ (alF WR v) d e) := by rw [trV_eq h1]; rfl
  have ok : (WR.vd (oneV WR a b c) (alF WR v) d e).2 = 0 → (WR.vd (trV WR (oneV WR a b c)) (alF WR v) d e).2 = 0 → VtP (oneV WR a b c) (WR.vd (oneV WR a b c) (alF WR v) d e).1 (WR.vd (trV WR (oneV WR a b c)) (alF WR v) d e).1 (alF WR v) := by
    rw [e1, e2]; exact fun k1 k2 => vt_ok h1 hal k1 k2
  rw [← e1] at er; rw [← e2] at er2
  have r0 := vtRun0 WR a b c v d e
  have r1 := vtRun1 WR a b c v d e
  have r2 := vtRun2 WR a b c v d e
  have r3 := vtRun3 WR a b c v d e
  have r4 := vtRun4 WR a b c v d e
  have r5 := vtRun_0_10 WR a b c v d e
  have r6 := vtRun_0_11 WR a b c v d e
  have r7 := vtRun_10_0 WR a b c v d e
  have r8 := vtRun_11_0 WR a b c v d e
  have r9 := vtRun_10_11 WR a b c v d e
  have r10 := vtRun_11_10 WR a b c v d e
  have ne : (WR.K.neg 0 (oneV WR a b c).y).2 = 0 := by rw [show WR.K.neg 0 (oneV WR a b c).y = _ from neg_mk (in1_rt h1.y)]
  unfold vtO0 at r0
  unfold vtO1 at r1
  clear e1 e2
  generalize WR.vd (oneV WR a b c) (alF WR v) d e = V at *
  generalize WR.vd (trV WR (oneV WR a b c)) (alF WR v) d e = V' at *
  have f : ∀ {x : Int} {k : Int}, x = k → ∀ j, k ≠ j → decide (x = j) = false := fun h j g => decide_eq_false (by rw [h]; exact g)
  have nt : ∀ {x : Int}, x = 0 → neB x = false := fun h => by rw [h]; rfl
  have nf : ∀ {x k : Int}, x = k → k ≠ 0 → neB x = true := fun h g => by rw [h]; unfold neB; simpa using g
  have ok' := fun k1 k2 => ok k1 k2
  rcases er with h | h | h <;> rcases er2 with k | k | k
  · have P := ok h k
    by_cases c1 : eqZ (oneV WR a b c).x = true
    · by_cases c2 : eqZ (oneV WR a b c).y = true
      · exact calls_of_val goodG oracle14 80 r4 (ObsOk.of_B (vtO2_ok hB P h k obsB_nil (obsB_yes c2 (obsB_yes c1 obsB_nil)))) rfl rfl w
      · have hn : ¬ (((oneV WR a b c).x.lo.k = 0 ∧ (oneV WR a b c).x.hi.k = 0) ∧ (oneV WR a b c).y.lo.k = 0 ∧ (oneV WR a b c).y.hi.k = 0) := fun g => c2 (eqZ_t.2 g.2)
        exact calls_of_val goodG oracle14 80 r3 (ObsOk.of_B (vtO2_ok hB P h k (vtL_ok ne P hn) (obsB_yes (Bool.eq_false_iff.2 c2) (obsB_yes c1 obsB_nil)))) rfl rfl w
    · have hn : ¬ (((oneV WR a b c).x.lo.k = 0 ∧ (oneV WR a b c).x.hi.k = 0) ∧ (oneV WR a b c).y.lo.k = 0 ∧ (oneV WR a b c).y.hi.k = 0) := fun g => c1 (eqZ_t.2 g.1)
      exact calls_of_val goodG oracle14 80 r2 (ObsOk.of_B (vtO2_ok hB P h k (vtL_ok ne P hn) (obsB_yes (Bool.eq_false_iff.2 c1) obsB_nil))) rfl rfl w
  · exact calls_of_val goodG oracle14 80 r5 (ObsOk.of_B (ob2 (obsB_yes (decide_eq_true k) (obsB_yes (f k 11 (by decide)) (obsB_yes (f k 0 (by decide)) (obsB_yes (decide_eq_true h) (obsB_yes (nf k (by decide)) (obsB_yes (nt h) obsB_nil)))))) hB)) rfl rfl w
  · exact calls_of_val goodG oracle14 80 r6 (ObsOk.of_B (ob2 (obsB_yes (decide_eq_true k) (obsB_yes (f k 0 (by decide)) (obsB_yes (decide_eq_true h) (obsB_yes (nf k (by decide)) (obsB_yes (nt h) obsB_nil))))) hB)) rfl rfl w
  · exact calls_of_val goodG oracle14 80 r7 (ObsOk.of_B (ob2 (obsB_yes (decide_eq_true k) (obsB_yes (decide_eq_true h) (obsB_yes (f h 11 (by decide)) (obsB_yes (f h 0 (by decide)) (obsB_yes (nf h (by decide)) obsB_nil))))) hB)) rfl rfl w
  · exact calls_of_val goodG oracle14 80 r1 (ObsOk.of_B (ob2 (obsB_yes (decide_eq_true k) (obsB_yes (f k 11 (by decide)) (obsB_yes (f k 0 (by decide)) (obsB_yes (decide_eq_true h) (obsB_yes (f h 11 (by decide)) (obsB_yes (f h 0 (by decide)) (obsB_yes (nf h (by decide)) obsB_nil))))))) hB)) rfl rfl w
  · exact calls_of_val goodG oracle14 80 r9 (ObsOk.of_B (ob2 (obsB_yes (decide_eq_true k) (obsB_yes (f k 0 (by decide)) (obsB_yes (decide_eq_true h) (obsB_yes (f h 11 (by decide)) (obsB_yes (f h 0 (by decide)) (obsB_yes (nf h (by decide)) obsB_nil)))))) hB)) rfl rfl w
  · exact calls_of_val goodG oracle14 80 r8 (ObsOk.of_B (ob2 (obsB_yes (decide_eq_true k) (obsB_yes (decide_eq_true h) (obsB_yes (f h 0 (by decide)) (obsB_yes (nf h (by decide)) obsB_nil)))) hB)) rfl rfl w
  · exact calls_of_val goodG oracle14 80 r10 (ObsOk.of_B (ob2 (obsB_yes (decide_eq_true k) (obsB_yes (f k 11 (by decide)) (obsB_yes (f k 0 (by decide)) (obsB_yes (decide_eq_true h) (obsB_yes (f h 0 (by decide)) (obsB_yes (nf h (by decide)) obsB_nil)))))) hB)) rfl rfl w
  · exact calls_of_val goodG oracle14 80 r0 (ObsOk.of_B (ob2 (obsB_yes (decide_eq_true k) (obsB_yes (f k 0 (by decide)) (obsB_yes (decide_eq_true h) (obsB_yes (f h 0 (by decide)) (obsB_yes (nf h (by decide)) obsB_nil))))) hB)) rfl rfl w
end Go.Proofs.YtoafllcnnhhebaaGreat
