/- The addition of angles, for the polynomials that stand for sine and cosine; twice an angle. -/
import Derived.Test.YtccmfddnbofgkaaGreatIr
namespace Bu
set_option linter.all false
open Rx Go

/-- t^n by n! -/
def TT (t : Rat) : Nat → Rat
  | 0 => 1
  | n + 1 => TT t n * t / ((n + 1 : Nat) : Rat)
/-- of the first n -/
def sm (f : Nat → Rat) : Nat → Rat
  | 0 => 0
  | n + 1 => sm f n + f n
theorem sm_add (f g : Nat → Rat) : ∀ n, sm (fun i => f i + g i) n = sm f n + sm g n
  | 0 => by simp only [sm]; grind
  | n + 1 => by simp only [sm]; rw [sm_add f g n]; grind
theorem sm_mul (c : Rat) (f : Nat → Rat) : ∀ n, sm (fun i => c * f i) n = c * sm f n
  | 0 => by simp only [sm]; grind
  | n + 1 => by simp only [sm]; rw [sm_mul c f n]; grind
theorem sm_congr {f g : Nat → Rat} : ∀ {n : Nat}, (∀ i, i < n → f i = g i) → sm f n = sm g n
  | 0, _ => rfl
  | n + 1, h => by simp only [sm]; rw [sm_congr (n := n) fun i hi => h i (by omega), h n (by omega)]
theorem sm_front (f : Nat → Rat) : ∀ n, sm f (n + 1) = f 0 + sm (fun i => f (i + 1)) n
  | 0 => by simp only [sm]; grind
  | n + 1 => by rw [sm, sm_front f n]; simp only [sm]; grind
theorem nz (n : Nat) : ((n + 1 : Nat) : Rat) ≠ 0 := by
  intro h
  have := Rat.natCast_inj.1 (show ((n + 1 : Nat) : Rat) = ((0 : Nat) : Rat) from h)
  omega
theorem TT_succ (t : Rat) (n : Nat) : ((n + 1 : Nat) : Rat) * TT t (n + 1) = t * TT t n := by
  rw [TT, Rat.mul_comm, Rat.div_mul_cancel (nz n), Rat.mul_comm]
def cv (a b : Rat) (n : Nat) : Rat := sm (fun i => TT a i * TT b (n - i)) (n + 1)
theorem cv_succ (a b : Rat) (n : Nat) : ((n + 1 : Nat) : Rat) * cv a b (n + 1) = (a + b) * cv a b n := by
  have h1 : ((n + 1 : Nat) : Rat) * cv a b (n + 1) = sm (fun i => (i : Rat) * TT a i * TT b (n + 1 - i) + TT a i * (((n + 1 - i : Nat) : Rat) * TT b (n + 1 - i))) (n + 2) := by
    unfold cv
    rw [← sm_mul]
    refine sm_congr fun i hi => ?_
    have e : ((n + 1 : Nat) : Rat) = (i : Rat) + ((n + 1 - i : Nat) : Rat) := by rw [← Rat.natCast_add]; congr 1; omega
    rw [e]; grind
  have h2 : sm (fun i => (i : Rat) * TT a i * TT b (n + 1 - i)) (n + 2) = a * cv a b n := by
    rw [sm_front]
    unfold cv
    rw [← sm_mul]
    have e0 : ((0 : Nat) : Rat) * TT a 0 * TT b (n + 1 - 0) = 0 := by rw [show ((0 : Nat) : Rat) = 0 from rfl]; grind
    rw [e0, Rat.zero_add]
    refine sm_congr fun i hi => ?_
    rw [TT_succ, show n + 1 - (i + 1) = n - i by omega]; grind
  have h3 : sm (fun i => TT a i * (((n + 1 - i : Nat) : Rat) * TT b (n + 1 - i))) (n + 2) = b * cv a b n := by
    rw [sm]
    have e0 : TT a (n + 1) * (((n + 1 - (n + 1) : Nat) : Rat) * TT b (n + 1 - (n + 1))) = 0 := by rw [Nat.sub_self, show ((0 : Nat) : Rat) = 0 from rfl]; grind
    rw [e0, Rat.add_zero]
    unfold cv
    rw [← sm_mul]
    refine sm_congr fun i hi => ?_
    rw [show n + 1 - i = (n - i) + 1 by omega, TT_succ]; grind
  rw [h1, sm_add, h2, h3]; grind
theorem cv_eq (a b : Rat) : ∀ n, cv a b n = TT (a + b) n
  | 0 => by
    have e : ∀ t : Rat, TT t 0 = 1 := fun _ => rfl
    unfold cv
    rw [sm, sm, Nat.sub_self, e, e, e]; grind
  | n + 1 => by
    have h := cv_succ a b n
    have k := TT_succ (a + b) n
    rw [cv_eq a b n, ← k] at h
    have z := nz n
    generalize ((n + 1 : Nat) : Rat) = c at *
    generalize TT (a + b) (n + 1) = y at *
    have i : c * c⁻¹ = 1 := Rat.mul_inv_cancel c z
    have l : c⁻¹ * (c * cv a b (n + 1)) = c⁻¹ * (c * y) := by rw [h]
    grind
/-- of 1, i, -1, -i .. -/
def rs : Nat → Rat × Rat
  | 0 => (1, 0)
  | n + 1 => (-(rs n).2, (rs n).1)
def ro (n : Nat) : Rat := (rs n).1
def sgn (n : Nat) : Rat := (rs n).2
theorem ro_s (n : Nat) : ro (n + 1) = -(sgn n) := rfl
theorem sgn_s (n : Nat) : sgn (n + 1) = ro n := rfl
theorem rs_add (m : Nat) : ∀ n, ro (m + n) = ro m * ro n - sgn m * sgn n ∧ sgn (m + n) = sgn m * ro n + ro m * sgn n
  | 0 => by
    have e : ro 0 = 1 ∧ sgn 0 = 0 := ⟨rfl, rfl⟩
    rw [e.1, e.2, Nat.add_zero]; constructor <;> grind
  | n + 1 => by
    obtain ⟨h, k⟩ := rs_add m n
    rw [← Nat.add_assoc, ro_s, sgn_s, ro_s, sgn_s, h, k]
    constructor <;> grind
theorem rs_even : ∀ n, ro (2 * n + 1) = 0 ∧ sgn (2 * n) = 0
  | 0 => ⟨by decide +kernel, rfl⟩
  | n + 1 => by
    obtain ⟨h, k⟩ := rs_even n
    have e1 : ro (2 * (n + 1) + 1) = -ro (2 * n + 1) := by
      rw [show 2 * (n + 1) + 1 = (2 * n + 1) + 1 + 1 by omega, ro_s, sgn_s]
    have e2 : sgn (2 * (n + 1)) = -sgn (2 * n) := by
      rw [show 2 * (n + 1) = 2 * n + 1 + 1 by omega, sgn_s, ro_s]
    rw [e1, e2, h, k]; constructor <;> grind
/-- within so much about 0 -/
structure Ab (x d : Rat) : Prop where
  lo : -d ≤ x
  hi : x ≤ d
theorem rs_1 : ∀ n, Ab (ro n) 1 ∧ Ab (sgn n) 1
  | 0 => ⟨⟨by decide +kernel, by decide +kernel⟩, ⟨by decide +kernel, by decide +kernel⟩⟩
  | n + 1 => by
    obtain ⟨h, k⟩ := rs_1 n
    rw [ro_s, sgn_s]
    have a := k.lo; have b := k.hi
    exact ⟨⟨by grind, by grind⟩, h⟩
theorem Ab.mul {x y d e : Rat} (h : Ab x d) (k : Ab y e) : Ab (x * y) (d * e) := by
  have a := h.lo; have b := h.hi; have a2 := k.lo; have b2 := k.hi
  have k1 := Rat.mul_nonneg (show 0 ≤ d - x by grind) (show 0 ≤ e - y by grind)
  have k2 := Rat.mul_nonneg (show 0 ≤ d - x by grind) (show 0 ≤ e + y by grind)
  have k3 := Rat.mul_nonneg (show 0 ≤ d + x by grind) (show 0 ≤ e - y by grind)
  have k4 := Rat.mul_nonneg (show 0 ≤ d + x by grind) (show 0 ≤ e + y by grind)
  exact ⟨by grind, by grind⟩
theorem Ab.nn {x d : Rat} (h : Ab x d) : 0 ≤ d := by have a := h.lo; have b := h.hi; grind
theorem inv_pos (n : Nat) : (0 : Rat) < 1 / ((n + 1 : Nat) : Rat) := by
  rw [Rat.div_def, Rat.one_mul]
  exact Rat.inv_pos.2 (Rat.natCast_pos.2 (by omega))
theorem TT_div (t : Rat) (n : Nat) : TT t (n + 1) = TT t n * (t * (1 / ((n + 1 : Nat) : Rat))) := by
  rw [TT, Rat.div_def, Rat.div_def]; grind
theorem TT_ab {a α : Rat} (h : Ab a α) : ∀ n, Ab (TT a n) (TT α n)
  | 0 => ⟨by simp only [TT]; grind, by simp only [TT]; grind⟩
  | n + 1 => by
    have i := inv_pos n
    rw [TT_div, TT_div]
    refine (TT_ab h n).mul ?_
    have k1 := Rat.mul_nonneg (show 0 ≤ α - a by have := h.hi; grind) (Rat.le_of_lt i)
    have k2 := Rat.mul_nonneg (show 0 ≤ α + a by have := h.lo; grind) (Rat.le_of_lt i)
    generalize 1 / ((n + 1 : Nat) : Rat) = q at *
    exact ⟨by grind, by grind⟩
theorem TT_nn {α : Rat} (h : 0 ≤ α) (n : Nat) : 0 ≤ TT α n := (TT_ab (a := α) ⟨by grind, by grind⟩ n).nn
/-- by rows -/
theorem tri (f : Nat → Nat → Rat) : ∀ N, sm (fun n => sm (fun i => f i (n - i)) (n + 1)) N = sm (fun i => sm (f i) (N - i)) N
  | 0 => rfl
  | N + 1 => by
    rw [sm, tri f N]
    have e : sm (fun i => sm (f i) (N + 1 - i)) (N + 1) = sm (fun i => sm (f i) (N - i) + f i (N - i)) (N + 1) := by
      refine sm_congr fun i hi => ?_
      rw [show N + 1 - i = (N - i) + 1 by omega, sm]
    rw [e, sm_add]
    congr 1
    rw [sm, Nat.sub_self, sm]; grind
theorem sm_sq (f g : Nat → Rat) (N M : Nat) : sm f N * sm g M = sm (fun i => sm (fun j => f i * g j) M) N := by
  rw [Rat.mul_comm, ← sm_mul]
  refine sm_congr fun i _ => ?_
  rw [sm_mul]; grind
/-- what is beyond -/
theorem sm_ab {g h : Nat → Rat} (hg : ∀ j, Ab (g j) (h j)) (M : Nat) : ∀ k, Ab (sm g (M + k) - sm g M) (sm h (M + k) - sm h M)
  | 0 => ⟨by rw [Nat.add_zero]; grind, by rw [Nat.add_zero]; grind⟩
  | k + 1 => by
    have a := sm_ab hg M k
    have b := hg (M + k)
    have a1 := a.lo; have a2 := a.hi; have b1 := b.lo; have b2 := b.hi
    rw [← Nat.add_assoc, sm, sm]
    exact ⟨by grind, by grind⟩
theorem sm_abs {g h : Nat → Rat} (hg : ∀ j, Ab (g j) (h j)) : ∀ N, Ab (sm g N) (sm h N)
  | 0 => ⟨by simp only [sm]; grind, by simp only [sm]; grind⟩
  | k + 1 => by
    have a := sm_abs hg k
    have b := hg k
    have a1 := a.lo; have a2 := a.hi; have b1 := b.lo; have b2 := b.hi
    simp only [sm]
    exact ⟨by grind, by grind⟩
theorem sm_le {g : Nat → Rat} (hg : ∀ j, 0 ≤ g j) (M : Nat) : ∀ k, sm g M ≤ sm g (M + k)
  | 0 => Rat.le_refl
  | k + 1 => by have a := sm_le hg M k; have b := hg (M + k); rw [← Nat.add_assoc, sm]; grind
theorem sm_mono {g h : Nat → Rat} : ∀ {N : Nat}, (∀ j, j < N → g j ≤ h j) → sm g N ≤ sm h N
  | 0, _ => Rat.le_refl
  | N + 1, hg => by have a := sm_mono (N := N) fun j hj => hg j (by omega); have b := hg N (by omega); simp only [sm]; grind
/-- a square less its half -/
theorem sq_tri (f h : Nat → Nat → Rat) (hf : ∀ i j, Ab (f i j) (h i j)) (N : Nat) :
    Ab (sm (fun i => sm (f i) N) N - sm (fun n => sm (fun i => f i (n - i)) (n + 1)) N) (sm (fun n => sm (fun i => h i (n - i)) (n + 1)) (N + N) - sm (fun n => sm (fun i => h i (n - i)) (n + 1)) N) := by
  have h0 : ∀ i j, 0 ≤ h i j := fun i j => (hf i j).nn
  rw [tri f N, tri h N, tri h (N + N)]
  have e1 : sm (fun i => sm (f i) N) N - sm (fun i => sm (f i) (N - i)) N = sm (fun i => if i < N then sm (f i) N - sm (f i) (N - i) else 0) N := by
    have k := sm_add (fun i => sm (f i) (N - i)) (fun i => if i < N then sm (f i) N - sm (f i) (N - i) else 0) N
    have k2 : sm (fun i => sm (f i) (N - i) + (if i < N then sm (f i) N - sm (f i) (N - i) else 0)) N = sm (fun i => sm (f i) N) N := by
      refine sm_congr fun i hi => ?_
      rw [if_pos hi]; grind
    rw [k2] at k
    grind
  have e2 : sm (fun i => sm (h i) N) N - sm (fun i => sm (h i) (N - i)) N = sm (fun i => if i < N then sm (h i) N - sm (h i) (N - i) else 0) N := by
    have k := sm_add (fun i => sm (h i) (N - i)) (fun i => if i < N then sm (h i) N - sm (h i) (N - i) else 0) N
    have k2 : sm (fun i => sm (h i) (N - i) + (if i < N then sm (h i) N - sm (h i) (N - i) else 0)) N = sm (fun i => sm (h i) N) N := by
      refine sm_congr fun i hi => ?_
      rw [if_pos hi]; grind
    rw [k2] at k
    grind
  have e3 : sm (fun i => sm (h i) N) N ≤ sm (fun i => sm (h i) (N + N - i)) (N + N) := by
    refine Rat.le_trans (sm_mono (h := fun i => sm (h i) (N + N - i)) fun i hi => ?_) (sm_le (fun j => ?_) N N)
    · rw [show N + N - i = N + (N - i) by omega]
      exact sm_le (h0 i) N _
    · have := sm_le (h0 j) 0 (N + N - j)
      rw [Nat.zero_add] at this
      exact this
  have a := sm_abs (g := fun i => if i < N then sm (f i) N - sm (f i) (N - i) else 0) (h := fun i => if i < N then sm (h i) N - sm (h i) (N - i) else 0) (fun i => by
    by_cases hi : i < N
    · simp only [if_pos hi]
      have := sm_ab (hf i) (N - i) i
      rw [show N - i + i = N by omega] at this
      exact this
    · simp only [if_neg hi]; exact ⟨by grind, by grind⟩) N
  rw [← e1, ← e2] at a
  have a1 := a.lo; have a2 := a.hi
  exact ⟨by grind, by grind⟩
def CC (N : Nat) (t : Rat) : Rat := sm (fun n => ro n * TT t n) N
def SS (N : Nat) (t : Rat) : Rat := sm (fun n => sgn n * TT t n) N
def tailB (α : Rat) (N : Nat) : Rat := sm (TT α) (N + N) - sm (TT α) N
theorem h_tri (α β : Rat) (N : Nat) : sm (fun n => sm (fun i => TT α i * TT β (n - i)) (n + 1)) N = sm (TT (α + β)) N :=
  sm_congr fun i _ => cv_eq α β i
theorem cc_add {a b α β : Rat} (ha : Ab a α) (hb : Ab b β) (N : Nat) : Ab (CC N a * CC N b - SS N a * SS N b - CC N (a + b)) (tailB (α + β) N) ∧ Ab (SS N a * CC N b + CC N a * SS N b - SS N (a + b)) (tailB (α + β) N) := by
  have one : ∀ {x y : Rat}, Ab x 1 → Ab y 1 → True := fun _ _ => trivial
  constructor
  · have k := sq_tri (fun i j => ro (i + j) * (TT a i * TT b j)) (fun i j => TT α i * TT β j) (fun i j => by
      have := (rs_1 (i + j)).1.mul ((TT_ab ha i).mul (TT_ab hb j))
      rwa [Rat.one_mul] at this) N
    rw [h_tri, h_tri] at k
    have e1 : sm (fun n => sm (fun i => ro (i + (n - i)) * (TT a i * TT b (n - i))) (n + 1)) N = CC N (a + b) := by
      refine sm_congr fun n _ => ?_
      rw [← cv_eq, cv, ← sm_mul]
      refine sm_congr fun i hi => ?_
      rw [show i + (n - i) = n by omega]
    have e2 : sm (fun i => sm (fun j => ro (i + j) * (TT a i * TT b j)) N) N = CC N a * CC N b - SS N a * SS N b := by
      unfold CC SS
      rw [sm_sq, sm_sq]
      have k := sm_add (fun i => sm (fun j => ro (i + j) * (TT a i * TT b j)) N) (fun i => sm (fun j => sgn i * TT a i * (sgn j * TT b j)) N) N
      have k2 : sm (fun i => sm (fun j => ro (i + j) * (TT a i * TT b j)) N + sm (fun j => sgn i * TT a i * (sgn j * TT b j)) N) N = sm (fun i => sm (fun j => ro i * TT a i * (ro j * TT b j)) N) N := by
        refine sm_congr fun i _ => ?_
        rw [← sm_add]
        refine sm_congr fun j _ => ?_
        rw [(rs_add i j).1]; grind
      rw [k2] at k
      grind
    rw [e1, e2] at k
    exact k
  · have k := sq_tri (fun i j => sgn (i + j) * (TT a i * TT b j)) (fun i j => TT α i * TT β j) (fun i j => by
      have := (rs_1 (i + j)).2.mul ((TT_ab ha i).mul (TT_ab hb j))
      rwa [Rat.one_mul] at this) N
    rw [h_tri, h_tri] at k
    have e1 : sm (fun n => sm (fun i => sgn (i + (n - i)) * (TT a i * TT b (n - i))) (n + 1)) N = SS N (a + b) := by
      refine sm_congr fun n _ => ?_
      rw [← cv_eq, cv, ← sm_mul]
      refine sm_congr fun i hi => ?_
      rw [show i + (n - i) = n by omega]
    have e2 : sm (fun i => sm (fun j => sgn (i + j) * (TT a i * TT b j)) N) N = SS N a * CC N b + CC N a * SS N b := by
      unfold CC SS
      rw [sm_sq, sm_sq, ← sm_add]
      refine sm_congr fun i _ => ?_
      rw [← sm_add]
      refine sm_congr fun j _ => ?_
      rw [(rs_add i j).2]; grind
    rw [e1, e2] at k
    exact k
theorem tail_le {α : Rat} (h0 : 0 ≤ α) (M : Nat) (hM : 2 * α ≤ (M : Rat)) : ∀ k, sm (TT α) (M + k) - sm (TT α) M ≤ 2 * TT α M - 2 * TT α (M + k)
  | 0 => by rw [Nat.add_zero]; grind
  | k + 1 => by
    have a := tail_le h0 M hM k
    have i := inv_pos (M + k)
    have t := TT_nn h0 (M + k)
    have d := TT_div α (M + k)
    have e : (M : Rat) ≤ ((M + k + 1 : Nat) : Rat) := Rat.natCast_le_natCast.2 (by omega)
    have c : 1 / ((M + k + 1 : Nat) : Rat) * ((M + k + 1 : Nat) : Rat) = 1 := Rat.div_mul_cancel (nz _)
    rw [← Nat.add_assoc, sm]
    have b : α * (1 / ((M + k + 1 : Nat) : Rat)) * 2 ≤ 1 := by
      have := Rat.mul_nonneg (show 0 ≤ ((M + k + 1 : Nat) : Rat) - 2 * α by grind) (Rat.le_of_lt i)
      grind
    have f := Rat.mul_nonneg t (show 0 ≤ 1 - α * (1 / ((M + k + 1 : Nat) : Rat)) * 2 by grind)
    rw [d]
    grind
/-- next to nothing, by far -/
def dl : Rat := 1 / ((2 ^ 1160 : Nat) : Rat)
set_option maxRecDepth 100000 in
theorem dl_ok : decide (2 * TT 4 302 ≤ dl ∧ 64 * dl ≤ eps ∧ 0 < dl) = true := by decide +kernel
theorem tail4 : tailB 4 302 ≤ dl := by
  have h := tail_le (α := 4) (by decide) 302 (by decide +kernel) 302
  have t := TT_nn (α := 4) (by decide) (302 + 302)
  have k := (of_decide_eq_true dl_ok).1
  unfold tailB
  grind
theorem nest_cc (z : Rat) : ∀ (n : Nat) (p : Rat), nestR (z * z) (dcL n) p = CC (2 * n) z + ro (2 * n) * TT z (2 * n) * p
  | 0, p => by simp only [dcL, nestR, CC, sm, ro, rs, TT]; grind
  | n + 1, p => by
    show nestR (z * z) (dcL n) (1 - z * z / (((2 * n + 1) * (2 * n + 2) : Nat) : Rat) * p) = _
    rw [nest_cc z n]
    have e1 : CC (2 * (n + 1)) z = CC (2 * n) z + ro (2 * n) * TT z (2 * n) + ro (2 * n + 1) * TT z (2 * n + 1) := rfl
    have e2 : ro (2 * (n + 1)) = -ro (2 * n) := rfl
    have e3 : TT z (2 * (n + 1)) = TT z (2 * n) * (z * z / (((2 * n + 1) * (2 * n + 2) : Nat) : Rat)) := by
      show TT z (2 * n + 1 + 1) = _
      rw [TT_div, TT_div, Rat.natCast_mul, Rat.div_def, Rat.div_def, Rat.div_def, Rat.inv_mul_rev]
      grind
    rw [e1, e2, e3, (rs_even n).1]
    generalize z * z / (((2 * n + 1) * (2 * n + 2) : Nat) : Rat) = q
    grind
theorem nest_ss (z : Rat) : ∀ (n : Nat) (p : Rat), z * nestR (z * z) (dsL n) p = SS (2 * n + 1) z + sgn (2 * n + 1) * TT z (2 * n + 1) * p
  | 0, p => by
    have e : TT z 1 = z := by simp only [TT]; rw [Rat.one_mul, Rat.div_def, show ((0 + 1 : Nat) : Rat) = 1 from rfl]; grind
    have e1 : SS (2 * 0 + 1) z = 0 := by simp only [SS, sm, sgn, rs]; grind
    have e2 : sgn (2 * 0 + 1) = 1 := rfl
    show z * p = _
    rw [e1, e2, show 2 * 0 + 1 = 1 from rfl, e]; grind
  | n + 1, p => by
    show z * nestR (z * z) (dsL n) (1 - z * z / (((2 * n + 2) * (2 * n + 3) : Nat) : Rat) * p) = _
    rw [nest_ss z n]
    have e1 : SS (2 * (n + 1) + 1) z = SS (2 * n + 1) z + sgn (2 * n + 1) * TT z (2 * n + 1) + sgn (2 * n + 2) * TT z (2 * n + 2) := rfl
    have e2 : sgn (2 * (n + 1) + 1) = -sgn (2 * n + 1) := rfl
    have e3 : TT z (2 * (n + 1) + 1) = TT z (2 * n + 1) * (z * z / (((2 * n + 2) * (2 * n + 3) : Nat) : Rat)) := by
      show TT z (2 * n + 1 + 1 + 1) = _
      rw [TT_div, TT_div, Rat.natCast_mul, Rat.div_def, Rat.div_def, Rat.div_def, Rat.inv_mul_rev]
      grind
    have e4 : sgn (2 * n + 2) = 0 := (rs_even (n + 1)).2
    rw [e1, e2, e3, e4]
    generalize z * z / (((2 * n + 2) * (2 * n + 3) : Nat) : Rat) = q
    grind
theorem cQ_cc (z : Rat) : cQ z = CC 302 z := by
  have h := nest_cc z 150 1
  have e : CC 302 z = CC (2 * 150) z + ro (2 * 150) * TT z (2 * 150) + ro (2 * 150 + 1) * TT z (2 * 150 + 1) := rfl
  show nestR (z * z) (dcL 150) 1 = _
  rw [h, e, (rs_even 150).1]
  grind
theorem sQ_ss (z : Rat) : sQ z = SS 302 z := by
  have h := nest_ss z 150 1
  have e : SS 302 z = SS (2 * 150 + 1) z + sgn (2 * 150 + 1) * TT z (2 * 150 + 1) := rfl
  show z * nestR (z * z) (dsL 150) 1 = _
  rw [h, e]
  grind
/-- of a sum -/
theorem sc_add {a b : Rat} (ha : Ab a 2) (hb : Ab b 2) : Ab (cQ a * cQ b - sQ a * sQ b - cQ (a + b)) dl ∧ Ab (sQ a * cQ b + cQ a * sQ b - sQ (a + b)) dl := by
  obtain ⟨h, k⟩ := cc_add ha hb 302
  have t := tail4
  rw [show (2 : Rat) + 2 = 4 by grind] at h k
  have a1 := h.lo; have a2 := h.hi; have b1 := k.lo; have b2 := k.hi
  simp only [cQ_cc, sQ_ss]
  exact ⟨⟨by grind, by grind⟩, ⟨by grind, by grind⟩⟩
set_option maxRecDepth 100000 in
/-- at a quarter -/
theorem quarterQ : decide (sQ (P2 * (1 / 4)) ≤ 1 + dl ∧ 1 ≤ sQ (P2 * (1 / 4)) + dl ∧ cQ (P2 * (1 / 4)) ≤ dl ∧ -dl ≤ cQ (P2 * (1 / 4))) = true := by decide +kernel
theorem reg0 {x : Rat} (h : x < 1 / 8) : SN x = sQ (P2 * (x - 0)) ∧ CN x = cQ (P2 * (x - 0)) := by
  unfold SN CN
  rw [if_pos (show x < 5 / 8 by grind), if_pos (show x < 3 / 8 by grind), if_pos h, if_pos (show x < 5 / 8 by grind), if_pos (show x < 3 / 8 by grind), if_pos h]; exact ⟨rfl, rfl⟩
theorem reg1 {x : Rat} (h : ¬ x < 1 / 8) (k : x < 3 / 8) : SN x = cQ (P2 * (x - 1 / 4)) ∧ CN x = -sQ (P2 * (x - 1 / 4)) := by
  unfold SN CN
  rw [if_pos (show x < 5 / 8 by grind), if_pos k, if_neg h, if_pos (show x < 5 / 8 by grind), if_pos k, if_neg h]; exact ⟨rfl, rfl⟩
theorem reg2 {x : Rat} (h : ¬ x < 3 / 8) (k : x < 5 / 8) : SN x = -sQ (P2 * (x - 1 / 2)) ∧ CN x = -cQ (P2 * (x - 1 / 2)) := by
  unfold SN CN
  rw [if_pos k, if_neg h, if_pos k, if_neg h]; exact ⟨rfl, rfl⟩
theorem reg3 {x : Rat} (h : ¬ x < 5 / 8) (k : x < 7 / 8) : SN x = -cQ (P2 * (x - 3 / 4)) ∧ CN x = sQ (P2 * (x - 3 / 4)) := by
  unfold SN CN
  rw [if_neg h, if_pos k, if_neg h, if_pos k]; exact ⟨rfl, rfl⟩
theorem reg4 {x : Rat} (h : ¬ x < 7 / 8) : SN x = sQ (P2 * (x - 1)) ∧ CN x = cQ (P2 * (x - 1)) := by
  unfold SN CN
  rw [if_neg (show ¬ x < 5 / 8 by grind), if_neg h, if_neg (show ¬ x < 5 / 8 by grind), if_neg h]; exact ⟨rfl, rfl⟩
theorem An.ab {z : Rat} (h : An z) : Ab z 2 := ⟨by have := h.lo; grind, by have := h.hi; grind⟩
theorem quart_ab : Ab (P2 * (1 / 4)) 2 ∧ Ab (-(P2 * (1 / 4))) 2 := by
  obtain ⟨a, b⟩ := P2_bd
  exact ⟨⟨by grind, by grind⟩, ⟨by grind, by grind⟩⟩
theorem sc_quarter {w : Rat} (h : An w) : (Ab (cQ (w + P2 * (1 / 4)) + sQ w) (3 * dl) ∧ Ab (sQ (w + P2 * (1 / 4)) - cQ w) (3 * dl)) ∧ Ab (cQ (w - P2 * (1 / 4)) - sQ w) (3 * dl) ∧ Ab (sQ (w - P2 * (1 / 4)) + cQ w) (3 * dl) := by
  obtain ⟨p1, p2, p3, p4⟩ := of_decide_eq_true quarterQ
  obtain ⟨⟨a1, a2⟩, a3, a4⟩ := sc_add h.ab quart_ab.1
  obtain ⟨⟨b1, b2⟩, b3, b4⟩ := sc_add h.ab quart_ab.2
  rw [sQ_neg, cQ_neg, ← Rat.sub_eq_add_neg] at b1 b2 b3 b4
  have s := sQ_1 h
  have c := cQ_01 h
  have d0 := (of_decide_eq_true dl_ok).2.2
  generalize sQ (P2 * (1 / 4)) = sb at *
  generalize cQ (P2 * (1 / 4)) = cb at *
  generalize sQ (w + P2 * (1 / 4)) = x1 at *
  generalize cQ (w + P2 * (1 / 4)) = x2 at *
  generalize sQ (w - P2 * (1 / 4)) = x3 at *
  generalize cQ (w - P2 * (1 / 4)) = x4 at *
  generalize sQ w = sw at *
  generalize cQ w = cw at *
  have k1 := (show Ab sw 1 from ⟨s.1, s.2⟩).mul (show Ab (sb - 1) dl from ⟨by grind, by grind⟩)
  have k2 := (show Ab cw 1 from ⟨by grind, c.2⟩).mul (show Ab (sb - 1) dl from ⟨by grind, by grind⟩)
  have k3 := (show Ab sw 1 from ⟨s.1, s.2⟩).mul (show Ab cb dl from ⟨p4, p3⟩)
  have k4 := (show Ab cw 1 from ⟨by grind, c.2⟩).mul (show Ab cb dl from ⟨p4, p3⟩)
  have l1 := k1.lo; have l2 := k1.hi; have l3 := k2.lo; have l4 := k2.hi; have l5 := k3.lo; have l6 := k3.hi; have l7 := k4.lo; have l8 := k4.hi
  exact ⟨⟨⟨by grind, by grind⟩, ⟨by grind, by grind⟩⟩, ⟨by grind, by grind⟩, ⟨by grind, by grind⟩⟩
/-- twice -/
structure Dbl (s c s2 c2 : Rat) : Prop where
  ds : Ab (2 * (s * c) - s2) (4 * dl)
  dc : Ab (c * c - s * s - c2) (4 * dl)
theorem dbl_z {z : Rat} (h : An z) : Ab (cQ z * cQ z - sQ z * sQ z - cQ (z + z)) dl ∧ Ab (2 * (sQ z * cQ z) - sQ (z + z)) dl := by
  obtain ⟨a, ⟨b1, b2⟩⟩ := sc_add h.ab h.ab
  exact ⟨a, ⟨by grind, by grind⟩⟩
theorem dbl {x : Rat} (h0 : 0 ≤ x) (h1 : x ≤ 1 / 2) : Dbl (SN x) (CN x) (SN (2 * x)) (CN (2 * x)) := by
  have d0 := (of_decide_eq_true dl_ok).2.2
  by_cases a : x < 1 / 8
  · obtain ⟨e1, e2⟩ := reg0 a
    rw [e1, e2]
    obtain ⟨⟨u1, u2⟩, u3, u4⟩ := dbl_z (z := P2 * (x - 0)) (an_of (by grind) (by grind))
    by_cases b : 2 * x < 1 / 8
    · obtain ⟨f1, f2⟩ := reg0 b
      rw [f1, f2, show P2 * (2 * x - 0) = P2 * (x - 0) + P2 * (x - 0) by grind]
      exact ⟨⟨by grind, by grind⟩, ⟨by grind, by grind⟩⟩
    · obtain ⟨f1, f2⟩ := reg1 b (by grind)
      obtain ⟨⟨⟨v1, v2⟩, v3, v4⟩, _⟩ := sc_quarter (w := P2 * (2 * x - 1 / 4)) (an_of (by grind) (by grind))
      rw [f1, f2]
      rw [show P2 * (2 * x - 1 / 4) + P2 * (1 / 4) = P2 * (x - 0) + P2 * (x - 0) by grind] at v1 v2 v3 v4
      exact ⟨⟨by grind, by grind⟩, ⟨by grind, by grind⟩⟩
  · by_cases a3 : x < 3 / 8
    · obtain ⟨e1, e2⟩ := reg1 a a3
      rw [e1, e2]
      obtain ⟨⟨u1, u2⟩, u3, u4⟩ := dbl_z (z := P2 * (x - 1 / 4)) (an_of (by grind) (by grind))
      by_cases b : 2 * x < 3 / 8
      · obtain ⟨f1, f2⟩ := reg1 (x := 2 * x) (by grind) b
        obtain ⟨_, ⟨v1, v2⟩, v3, v4⟩ := sc_quarter (w := P2 * (2 * x - 1 / 4)) (an_of (by grind) (by grind))
        rw [f1, f2]
        rw [show P2 * (2 * x - 1 / 4) - P2 * (1 / 4) = P2 * (x - 1 / 4) + P2 * (x - 1 / 4) by grind] at v1 v2 v3 v4
        exact ⟨⟨by grind, by grind⟩, ⟨by grind, by grind⟩⟩
      · by_cases b5 : 2 * x < 5 / 8
        · obtain ⟨f1, f2⟩ := reg2 b b5
          rw [f1, f2, show P2 * (2 * x - 1 / 2) = P2 * (x - 1 / 4) + P2 * (x - 1 / 4) by grind]
          exact ⟨⟨by grind, by grind⟩, ⟨by grind, by grind⟩⟩
        · obtain ⟨f1, f2⟩ := reg3 b5 (by grind)
          obtain ⟨⟨⟨v1, v2⟩, v3, v4⟩, _⟩ := sc_quarter (w := P2 * (2 * x - 3 / 4)) (an_of (by grind) (by grind))
          rw [f1, f2]
          rw [show P2 * (2 * x - 3 / 4) + P2 * (1 / 4) = P2 * (x - 1 / 4) + P2 * (x - 1 / 4) by grind] at v1 v2 v3 v4
          exact ⟨⟨by grind, by grind⟩, ⟨by grind, by grind⟩⟩
    · obtain ⟨e1, e2⟩ := reg2 a3 (by grind)
      rw [e1, e2]
      obtain ⟨⟨u1, u2⟩, u3, u4⟩ := dbl_z (z := P2 * (x - 1 / 2)) (an_of (by grind) (by grind))
      by_cases b : 2 * x < 7 / 8
      · obtain ⟨f1, f2⟩ := reg3 (x := 2 * x) (by grind) b
        obtain ⟨_, ⟨v1, v2⟩, v3, v4⟩ := sc_quarter (w := P2 * (2 * x - 3 / 4)) (an_of (by grind) (by grind))
        rw [f1, f2]
        rw [show P2 * (2 * x - 3 / 4) - P2 * (1 / 4) = P2 * (x - 1 / 2) + P2 * (x - 1 / 2) by grind] at v1 v2 v3 v4
        exact ⟨⟨by grind, by grind⟩, ⟨by grind, by grind⟩⟩
      · obtain ⟨f1, f2⟩ := reg4 b
        rw [f1, f2, show P2 * (2 * x - 1) = P2 * (x - 1 / 2) + P2 * (x - 1 / 2) by grind]
        exact ⟨⟨by grind, by grind⟩, ⟨by grind, by grind⟩⟩
end Bu
