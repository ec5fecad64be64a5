/- burnishref01: Mul and Div round to the side. -/
import Derived.Test.YtmhhopfffeijnaaGreatNq
namespace Go.Proofs.YtmhhopfffeijnaaGreat
set_option linter.all false
open Go.RowKit Bu Rx

def dvS (s : Bool) (w : Nat) : Nat := bif s then Op.negFloat .f64 w else w
def dvEnd (a b : F) (o : Option Nat) : Obs := [(o.isSome, true), (rightB (o.getD 0), true), (!decide (b.k = 0), true), (!decide (a.k = 0), true), (decide (a.k = (toF 0).k), false), (decide (b.k = (toF 0).k), false)]
def dv1 (K : Kf) (c0 : F) (n : Int) (D : F) (x y z : Nat) (g : F) (s : Bool) (r : Obs) : Obs := (rightB (dvS s (fW x y z)) || Nat.beq (dvS s (fW x y z)) NEG0, true) :: (decide (g.k < (toF 0).k), s) :: ((Ieee.double.fma x y z).isSome, true) :: (!decide ((toF (K.L D (-n))).k = 0), true) :: (nzB (K.L D (-n)), true) :: bd6 n :: (nzB (K.L c0 n), true) :: r
def dv2 (K : Kf) (c0 : F) (n : Int) (x y z : Nat) (g : F) (s : Bool) (i : Bool) (r : Obs) : Obs := (badC (K.L c0 n), true) :: (rightB (dvS s (fW x y z)), true) :: (decide (g.k < (toF 0).k), s) :: ((Ieee.double.fma x y z).isSome, true) :: (badC (K.L c0 n), true) :: bd6 n :: (Nat.beq (K.L c0 n) INF || Nat.beq (K.L c0 n) NINF, i) :: (nzB (K.L c0 n), false) :: r
theorem dvRun1 (K : Kf) (a b : F) (up s : Bool) : valR ((run Tryz.prog EH (OMu K) 80).1 190 [.fl a, .fl b, .b up] [] (some [false, false, true, s])) =
    some (sdD (toF (K.L (dN (K.fr a) (K.fr b)) (wrp (K.ex a - K.ex b)))) (dvS s (fW (toF (K.L (toF (K.L (dN (K.fr a) (K.fr b)) (wrp (K.ex a - K.ex b)))) (-(wrp (K.ex a - K.ex b))))).neg.b (K.fr b).b (K.fr a).b)) up, some [],
      dv1 K (dN (K.fr a) (K.fr b)) (wrp (K.ex a - K.ex b)) (toF (K.L (dN (K.fr a) (K.fr b)) (wrp (K.ex a - K.ex b)))) (toF (K.L (toF (K.L (dN (K.fr a) (K.fr b)) (wrp (K.ex a - K.ex b)))) (-(wrp (K.ex a - K.ex b))))).neg.b (K.fr b).b (K.fr a).b (K.fr b) s (dvEnd a b (Ieee.double.div (K.fr a).b (K.fr b).b))) := by cases s <;> kernel_rfl
theorem dvRun2 (K : Kf) (a b : F) (up s : Bool) : valR ((run Tryz.prog EH (OMu K) 80).1 190 [.fl a, .fl b, .b up] [] (some [false, false, false, true, s])) =
    some (sdW (K.L (dN (K.fr a) (K.fr b)) (wrp (K.ex a - K.ex b))) (dvS s (fW NEG0 (K.fr b).b (K.fr a).b)) up, some [],
      dv2 K (dN (K.fr a) (K.fr b)) (wrp (K.ex a - K.ex b)) NEG0 (K.fr b).b (K.fr a).b (K.fr b) s true (dvEnd a b (Ieee.double.div (K.fr a).b (K.fr b).b))) := by cases s <;> kernel_rfl
theorem dvRun3 (K : Kf) (a b : F) (up s : Bool) : valR ((run Tryz.prog EH (OMu K) 80).1 190 [.fl a, .fl b, .b up] [] (some [false, false, false, false, s])) =
    some (sdW (K.L (dN (K.fr a) (K.fr b)) (wrp (K.ex a - K.ex b))) (dvS s (fW (Op.negFloat .f64 (K.L (dN (K.fr a) (K.fr b)) (wrp (K.ex a - K.ex b)))) (K.fr b).b (K.fr a).b)) up, some [],
      dv2 K (dN (K.fr a) (K.fr b)) (wrp (K.ex a - K.ex b)) (Op.negFloat .f64 (K.L (dN (K.fr a) (K.fr b)) (wrp (K.ex a - K.ex b)))) (K.fr b).b (K.fr a).b (K.fr b) s false (dvEnd a b (Ieee.double.div (K.fr a).b (K.fr b).b))) := by cases s <;> kernel_rfl
theorem dvRun0 (K : Kf) (a b : F) (up : Bool) : valR ((run Tryz.prog EH (OMu K) 80).1 190 [.fl a, .fl b, .b up] [] (some [true])) = some (.tup [.fl F.zero, .i .i64 11], some [], [(decide (b.k = (toF 0).k), true)]) := by kernel_rfl
theorem dvRun0' (K : Kf) (a b : F) (up : Bool) : valR ((run Tryz.prog EH (OMu K) 80).1 190 [.fl a, .fl b, .b up] [] (some [false, true])) = some (.tup [.fl F.zero, .i .i64 0], some [], [(decide (a.k = (toF 0).k), true), (decide (b.k = (toF 0).k), false)]) := by kernel_rfl
theorem plain_sdS {r p : F × Int} (h : r = p) : plain (sdS r) = some (.tuple #[.float .f64 p.1.b, .int .i64 p.2]) := by rw [h]; rfl
theorem dF_F (d : F) : dF d.b = d := by unfold dF; rw [right_F, cond_true, toF_F]
theorem fW_F {x y z : Nat} {d : F} (h : Ieee.double.fma x y z = some d.b) : fW x y z = d.b ∧ (Ieee.double.fma x y z).isSome = true := by unfold fW; rw [h]; exact ⟨rfl, rfl⟩
theorem k_ne0 {x : F} (h : x.k ≠ 0) : decide (x.k = (toF 0).k) = false := by rw [zero_k']; exact decide_eq_false h
theorem muEnd_ok {a b c : F} {o : Option Nat} (ha : a.k ≠ 0) (hb : b.k ≠ 0) (h : o = some c.b) : obsB (muEnd a b o) = true := by
  rw [h]
  exact obsB_yes rfl (obsB_yes (right_F c) (obsB_yes (by rw [decide_eq_false hb]; rfl) (obsB_yes (by rw [decide_eq_false ha]; rfl) (obsB_yes (k_ne0 hb) (obsB_yes (k_ne0 ha) obsB_nil)))))
theorem dvEnd_ok {a b c : F} {o : Option Nat} (ha : a.k ≠ 0) (hb : b.k ≠ 0) (h : o = some c.b) : obsB (dvEnd a b o) = true := by
  rw [h]
  exact obsB_yes rfl (obsB_yes (right_F c) (obsB_yes (by rw [decide_eq_false hb]; rfl) (obsB_yes (by rw [decide_eq_false ha]; rfl) (obsB_yes (k_ne0 ha) (obsB_yes (k_ne0 hb) obsB_nil)))))
theorem wrp_eq {n : Int} (h1 : -6000 ≤ n) (h2 : n ≤ 6000) : wrp n = n := by unfold wrp; rw [IntKind.wrap_i64]; omega
theorem rmul_of {K : Kf} (hO : OracleOk Tryz.prog (OMu K)) {a b c0 : F} (ha : a.k ≠ 0) (hb : b.k ≠ 0) (e0 : Ieee.double.mul (K.fr a).b (K.fr b).b = some c0.b) (n1 : -6000 ≤ K.ex a + K.ex b) (n2 : K.ex a + K.ex b ≤ 6000) {r : Bool → F × Int} (h : SideR K.L c0 (K.ex a + K.ex b) (K.fr a) (K.fr b) r) (up : Bool) (w : World) :
    Calls Tryz.prog 134 #[.float .f64 a.b, .float .f64 b.b, .bool up] w fun e w' => e = .returned (.tuple #[.float .f64 (r up).1.b, .int .i64 (r up).2]) ∧ Below w.heap.size w w' := by
  have em : mN (K.fr a) (K.fr b) = c0 := by unfold mN; rw [e0]; exact toF_F c0
  have en := wrp_eq n1 n2
  have hend := muEnd_ok ha hb e0
  have hb6 : (bd6 (K.ex a + K.ex b)).1 = true := decide_eq_true ⟨n1, n2⟩
  cases hz : nzB (K.L c0 (K.ex a + K.ex b))
  · obtain ⟨h1, h2, h3⟩ := h.word hz
    rcases h2 with hi | ⟨hi, hw⟩
    · obtain ⟨d, d1, d2⟩ := h3 NEG0 (.inl rfl)
      obtain ⟨f1, f2⟩ := fW_F d1
      have hr := muRun2 K a b up
      unfold mu2 at hr
      rw [em, en, f1] at hr
      refine calls_of_val goodH hO 80 hr (ObsOk.of_B (obsB_yes h1 (obsB_yes (right_F d) (obsB_yes f2 (obsB_yes h1 (obsB_yes hb6 (obsB_yes hi (obsB_yes hz hend)))))))) rfl (plain_sdS (by rw [dF_F]; exact d2 up)) w
    · obtain ⟨d, d1, d2⟩ := h3 _ (neg_z hw)
      obtain ⟨f1, f2⟩ := fW_F d1
      have hr := muRun3 K a b up
      unfold mu2 at hr
      rw [em, en, f1] at hr
      refine calls_of_val goodH hO 80 hr (ObsOk.of_B (obsB_yes h1 (obsB_yes (right_F d) (obsB_yes f2 (obsB_yes h1 (obsB_yes hb6 (obsB_yes hi (obsB_yes hz hend)))))))) rfl (plain_sdS (by rw [dF_F]; exact d2 up)) w
  · obtain ⟨D, y, d, h1, h2, h3, h4, h5, h6⟩ := h.num hz
    obtain ⟨f1, f2⟩ := fW_F h5
    have eD : toF (K.L c0 (K.ex a + K.ex b)) = D := by rw [h1]; exact toF_F D
    have ey : toF (K.L D (-(K.ex a + K.ex b))) = y := by rw [h2]; exact toF_F y
    have hr := muRun1 K a b up
    unfold mu1 at hr
    rw [em, en, eD, ey, f1] at hr
    refine calls_of_val goodH hO 80 hr (ObsOk.of_B (obsB_yes (by rw [right_F, Bool.true_or]) (obsB_yes f2 (obsB_yes (by rw [decide_eq_false h4]; rfl) (obsB_yes h3 (obsB_yes hb6 (obsB_yes hz hend))))))) rfl (plain_sdS (by rw [dF_F]; exact h6 up)) w
theorem rndR_zero (up : Bool) {B : Nat} (hB : 0 < B) : rndR up 0 B = (F.zero, 0) := by
  have nk : Nk F.zero.k 0 B := by
    constructor
    · intro j h
      apply Int.not_lt.1
      intro c
      have h1 : nvZ j < nvZ 0 := nvZ_lt c
      rw [nvZ_zero] at h1
      have := neg_pos_mul h1 (show (0 : Int) < (B : Int) by omega)
      omega
    · intro j h
      apply Int.not_lt.1
      intro c
      have h1 : nvZ 0 < nvZ j := nvZ_lt c
      rw [nvZ_zero] at h1
      have := Int.mul_pos h1 (show (0 : Int) < (B : Int) by omega)
      omega
  have z0 : F.zero.z = 0 := (z_zero F.zero).2 rfl
  have := side_ok (c := F.zero) (pos := false) (neg := false) (up := up) hB nk (by rw [z0, Int.zero_mul]; simp) (by rw [z0, Int.zero_mul]; simp)
  rw [← this]
  cases up <;> rfl
theorem rmul_w (a b : F) (up : Bool) (w : World) : Calls Tryz.prog 134 #[.float .f64 a.b, .float .f64 b.b, .bool up] w fun e w' => e = .returned (.tuple #[.float .f64 (dMul up a b).1.b, .int .i64 (dMul up a b).2]) ∧ Below w.heap.size w w' := by
  by_cases ha : a.k = 0
  · have e : dMul up a b = (F.zero, 0) := by unfold dMul; rw [(z_zero a).2 ha, Int.zero_mul]; exact rndR_zero up S_pos
    rw [e]
    exact calls_of_val goodH oracleMu 80 (muRun0 KfR a b up) (ObsOk.of_B (obsB_yes (decide_eq_true (by rw [zero_k']; exact ha)) obsB_nil)) rfl rfl w
  · by_cases hb : b.k = 0
    · have e : dMul up a b = (F.zero, 0) := by unfold dMul; rw [(z_zero b).2 hb, Int.mul_zero]; exact rndR_zero up S_pos
      rw [e]
      exact calls_of_val goodH oracleMu 80 (muRun0' KfR a b up) (ObsOk.of_B (obsB_yes (decide_eq_true (by rw [zero_k']; exact hb)) (obsB_yes (k_ne0 ha) obsB_nil))) rfl rfl w
    · obtain ⟨c0, e0, h⟩ := mul_side ha hb
      obtain ⟨_, _, _, a1, a2⟩ := fr_ok ha
      obtain ⟨_, _, _, b1, b2⟩ := fr_ok hb
      exact rmul_of (K := KfR) oracleMu ha hb e0 (show -6000 ≤ exF a + exF b by omega) (show exF a + exF b ≤ 6000 by omega) h up w
theorem rmulG : PlainOk Tryz.prog 134 (kTwo dMul) := two_ok rmul_w
/-! ## Div -/
theorem dvS_F {g d : F} {s : Bool} (hs : decide (g.k < (toF 0).k) = s) : dF (dvS s d.b) = sgF g d ∧ (rightB (dvS s d.b) || Nat.beq (dvS s d.b) NEG0) = true ∧ (d.k ≠ 0 → rightB (dvS s d.b) = true) := by
  rw [zero_k'] at hs
  unfold sgF
  cases s
  · rw [if_neg (of_decide_eq_false hs)]
    exact ⟨dF_F d, by show (rightB d.b || _) = true; rw [right_F, Bool.true_or], fun _ => right_F d⟩
  · rw [if_pos (of_decide_eq_true hs)]
    have e : dvS true d.b = Op.negFloat .f64 d.b := rfl
    rw [e]
    by_cases hd : d.k = 0
    · have : d = F.zero := F.ext' hd
      subst this
      refine ⟨?_, by decide, fun h => absurd hd h⟩
      have e1 : Op.negFloat .f64 F.zero.b = NEG0 := by decide
      rw [e1, dF_NEG0]
      exact F.ext' (by decide)
    · rw [negFloat_F d hd]
      exact ⟨dF_F _, by rw [right_F, Bool.true_or], fun _ => right_F _⟩
theorem rdiv_of {K : Kf} (hO : OracleOk Tryz.prog (OMu K)) {a b c0 : F} (ha : a.k ≠ 0) (hb : b.k ≠ 0) (e0 : Ieee.double.div (K.fr a).b (K.fr b).b = some c0.b) (n1 : -6000 ≤ K.ex a - K.ex b) (n2 : K.ex a - K.ex b ≤ 6000) {r : Bool → F × Int} (h : DivR K.L c0 (K.ex a - K.ex b) (K.fr a) (K.fr b) r) (up : Bool) (w : World) :
    Calls Tryz.prog 190 #[.float .f64 a.b, .float .f64 b.b, .bool up] w fun e w' => e = .returned (.tuple #[.float .f64 (r up).1.b, .int .i64 (r up).2]) ∧ Below w.heap.size w w' := by
  have em : dN (K.fr a) (K.fr b) = c0 := by unfold dN; rw [e0]; exact toF_F c0
  have en := wrp_eq n1 n2
  have hend := dvEnd_ok ha hb e0
  have hb6 : (bd6 (K.ex a - K.ex b)).1 = true := decide_eq_true ⟨n1, n2⟩
  obtain ⟨s, hs⟩ : ∃ s, decide ((K.fr b).k < (toF 0).k) = s := ⟨_, rfl⟩
  cases hz : nzB (K.L c0 (K.ex a - K.ex b))
  · obtain ⟨h1, h2, h3⟩ := h.word hz
    rcases h2 with hi | ⟨hi, hw⟩
    · obtain ⟨d, d1, d0, d2⟩ := h3 NEG0 (.inl rfl)
      obtain ⟨f1, f2⟩ := fW_F d1
      obtain ⟨g1, g2, g3⟩ := dvS_F (d := d) hs
      have hr := dvRun2 K a b up s
      unfold dv2 at hr
      rw [em, en, f1] at hr
      refine calls_of_val goodH hO 80 hr (ObsOk.of_B (obsB_yes h1 (obsB_yes (g3 d0) (obsB_yes hs (obsB_yes f2 (obsB_yes h1 (obsB_yes hb6 (obsB_yes hi (obsB_yes hz hend))))))))) rfl (plain_sdS (by rw [g1]; exact d2 up)) w
    · obtain ⟨d, d1, d0, d2⟩ := h3 _ (neg_z hw)
      obtain ⟨f1, f2⟩ := fW_F d1
      obtain ⟨g1, g2, g3⟩ := dvS_F (d := d) hs
      have hr := dvRun3 K a b up s
      unfold dv2 at hr
      rw [em, en, f1] at hr
      refine calls_of_val goodH hO 80 hr (ObsOk.of_B (obsB_yes h1 (obsB_yes (g3 d0) (obsB_yes hs (obsB_yes f2 (obsB_yes h1 (obsB_yes hb6 (obsB_yes hi (obsB_yes hz hend))))))))) rfl (plain_sdS (by rw [g1]; exact d2 up)) w
  · obtain ⟨D, y, d, h1, h2, h3, h4, h5, h6⟩ := h.num hz
    obtain ⟨f1, f2⟩ := fW_F h5
    obtain ⟨g1, g2, g3⟩ := dvS_F (d := d) hs
    have eD : toF (K.L c0 (K.ex a - K.ex b)) = D := by rw [h1]; exact toF_F D
    have ey : toF (K.L D (-(K.ex a - K.ex b))) = y := by rw [h2]; exact toF_F y
    have hr := dvRun1 K a b up s
    unfold dv1 at hr
    rw [em, en, eD, ey, f1] at hr
    refine calls_of_val goodH hO 80 hr (ObsOk.of_B (obsB_yes g2 (obsB_yes hs (obsB_yes f2 (obsB_yes (by rw [decide_eq_false h4]; rfl) (obsB_yes h3 (obsB_yes hb6 (obsB_yes hz hend)))))))) rfl (plain_sdS (by rw [g1]; exact h6 up)) w
theorem rdiv_w (a b : F) (up : Bool) (w : World) : Calls Tryz.prog 190 #[.float .f64 a.b, .float .f64 b.b, .bool up] w fun e w' => e = .returned (.tuple #[.float .f64 (pDiv up a b).1.b, .int .i64 (pDiv up a b).2]) ∧ Below w.heap.size w w' := by
  by_cases hb : b.k = 0
  · have e : pDiv up a b = (F.zero, 11) := by unfold pDiv; rw [if_pos hb]
    rw [e]
    exact calls_of_val goodH oracleMu 80 (dvRun0 KfR a b up) (ObsOk.of_B (obsB_yes (decide_eq_true (by rw [zero_k']; exact hb)) obsB_nil)) rfl rfl w
  · have ep : pDiv up a b = dDiv up a b := by unfold pDiv; rw [if_neg hb]
    rw [ep]
    by_cases ha : a.k = 0
    · have e : dDiv up a b = (F.zero, 0) := by
        have h0 : 0 < b.z.natAbs := by have : b.z ≠ 0 := fun h => hb ((z_zero b).1 h); omega
        unfold dDiv
        rw [(z_zero a).2 ha, Int.zero_mul, Int.neg_zero, show (if b.k < 0 then (0 : Int) else 0) = 0 from by split <;> rfl]
        exact rndR_zero up h0
      rw [e]
      exact calls_of_val goodH oracleMu 80 (dvRun0' KfR a b up) (ObsOk.of_B (obsB_yes (decide_eq_true (by rw [zero_k']; exact ha)) (obsB_yes (k_ne0 hb) obsB_nil))) rfl rfl w
    · obtain ⟨c0, e0, h⟩ := div_side ha hb
      obtain ⟨_, _, _, a1, a2⟩ := fr_ok ha
      obtain ⟨_, _, _, b1, b2⟩ := fr_ok hb
      exact rdiv_of (K := KfR) oracleMu ha hb e0 (show -6000 ≤ exF a - exF b by omega) (show exF a - exF b ≤ 6000 by omega) h up w
theorem rdivG : PlainOk Tryz.prog 190 (kTwo pDiv) := two_ok rdiv_w
end Go.Proofs.YtmhhopfffeijnaaGreat
