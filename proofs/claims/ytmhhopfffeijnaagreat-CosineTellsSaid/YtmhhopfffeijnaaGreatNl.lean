/- burnishref01: side, plain, far, Add, Sub: what they answer. -/
import Derived.Test.YtmhhopfffeijnaaGreatNi
import Derived.Test.YtmhhopfffeijnaaGreatNj
namespace Go.Proofs.YtmhhopfffeijnaaGreat
set_option linter.all false
open Go.RowKit Bu Rx

def OS1 : OracleF := lookO [(166, plainO kInf), (182, plainO kNa)]
theorem oracleS1 : OracleOk Tryz.prog OS1 := .cons infK.of (.cons naK.of (.nil _))
def OS0 : OracleF := lookO []
theorem oracleS0 : OracleOk Tryz.prog OS0 := .nil _
theorem plRun (c : F) (d : Bool) : valR ((run Tryz.prog EH OS0 80).1 184 [.fl c] [] (some [d])) = some (.fl (bif d then F.zero else c), some [], [(decide (c.k = (toF 0).k), d)]) := by cases d <;> kernel_rfl
theorem plRun0 : outB ((run Tryz.prog EH OS0 80).1 184 [.f NEG0] [] (some [true])) = some (.fl F.zero) := by kernel_rfl
theorem plain_F (c : F) (w : World) : Calls Tryz.prog 184 #[.float .f64 c.b] w fun e w' => e = .returned (.float .f64 c.b) ∧ Below w.heap.size w w' := by
  have e0 := zero_k'
  cases h : decide (c.k = (toF 0).k)
  · exact calls_of_val goodH oracleS0 80 (plRun c false) (ObsOk.of_B (obsB_yes h obsB_nil)) rfl rfl w
  · have e : c = F.zero := F.ext' (by have := of_decide_eq_true h; rw [e0] at this; exact this)
    have hr := plRun c true
    subst e
    exact calls_of_val goodH oracleS0 80 hr (ObsOk.of_B (obsB_yes h obsB_nil)) rfl rfl w
theorem plainK : PlainOk Tryz.prog 184 kPlain := by
  intro args ds x ds' ob h ho
  unfold kPlain at h
  split at h
  · rename_i x
    simp only [Option.some.injEq, Prod.mk.injEq] at h; obtain ⟨rfl, _, _⟩ := h
    exact ⟨[.float .f64 x.b], _, rfl, rfl, plain_F x⟩
  · rename_i v
    split at h
    · rename_i ds1 ob1 h1
      simp only [Option.some.injEq, Prod.mk.injEq] at h; obtain ⟨rfl, _, rfl⟩ := h
      have hr := (takeB_ok h1 ho).symm
      refine ⟨[.float .f64 v], _, rfl, rfl, fun w => ?_⟩
      have := plain_F (toF v) w
      rw [toF_b hr] at this ⊢
      exact this
    · rename_i ds1 ob1 h1
      simp only [Option.some.injEq, Prod.mk.injEq] at h; obtain ⟨rfl, _, rfl⟩ := h
      have hv := Nat.eq_of_beq_eq_true (ho _ (List.mem_cons_self ..))
      subst hv
      exact ⟨[.float .f64 NEG0], _, rfl, rfl, fun w => calls_of_out goodH oracleS0 80 plRun0 rfl rfl w⟩
    · cases h
  · cases h
/-! ## side -/
def pz (c : F) : Bool := decide (c.k = (toF 0).k)
theorem sdU1 (c d : F) : valR ((run Tryz.prog EH OS1 80).1 188 [.fl c, .fl d, .b true] [] (some [true, true, false, false])) = some (.tup [.fl (F.of (c.k + 1)), .i .i64 0], some [], [(decide ((F.of (c.k + 1)).k = (toF 0).k), false), (true, true), (decide (c.k = -1), false), (decide (c.k + 1 < (T : Int)), true), (decide ((toF 0).k < d.k), true), (true, true), (true, true)]) := by kernel_rfl
theorem sdU2 (c d : F) : valR ((run Tryz.prog EH OS1 80).1 188 [.fl c, .fl d, .b true] [] (some [true, true, true, false, true])) = some (.tup [.fl F.zero, .i .i64 0], some [], [(true, true), (true, true), (false, false), (decide (c.k = -1), true), (decide (c.k + 1 < (T : Int)), true), (decide ((toF 0).k < d.k), true), (true, true), (true, true)]) := by kernel_rfl
theorem sdU3 (c d : F) : valR ((run Tryz.prog EH OS1 80).1 188 [.fl c, .fl d, .b true] [] (some [true, false, true])) = some (.tup [.fl F.zero, .i .i64 10], some [], [(true, true), (true, true), (decide (c.k + 1 < (T : Int)), false), (decide ((toF 0).k < d.k), true), (true, true), (true, true)]) := by kernel_rfl
theorem sdU4 (c d : F) (z : Bool) : valR ((run Tryz.prog EH OS1 80).1 188 [.fl c, .fl d, .b true] [] (some [false, z])) = some (.tup [.fl (bif z then F.zero else c), .i .i64 0], some [], [(pz c, z), (true, true), (decide ((toF 0).k < d.k), false), (true, true), (true, true)]) := by cases z <;> kernel_rfl
theorem sdD1 (c d : F) (z : Bool) : valR ((run Tryz.prog EH OS1 80).1 188 [.fl c, .fl d, .b false] [] (some [true, true, z])) = some (.tup [.fl (bif z then F.zero else F.of (c.k - 1)), .i .i64 0], some [], [(pz (F.of (c.k - 1)), z), (true, true), (decide (-(T : Int) < c.k - 1), true), (decide (d.k < (toF 0).k), true), (true, true), (true, true)]) := by cases z <;> kernel_rfl
theorem sdD3 (c d : F) : valR ((run Tryz.prog EH OS1 80).1 188 [.fl c, .fl d, .b false] [] (some [true, false, true])) = some (.tup [.fl F.zero, .i .i64 10], some [], [(true, true), (true, true), (decide (-(T : Int) < c.k - 1), false), (decide (d.k < (toF 0).k), true), (true, true), (true, true)]) := by kernel_rfl
theorem sdD4 (c d : F) (z : Bool) : valR ((run Tryz.prog EH OS1 80).1 188 [.fl c, .fl d, .b false] [] (some [false, z])) = some (.tup [.fl (bif z then F.zero else c), .i .i64 0], some [], [(pz c, z), (true, true), (decide (d.k < (toF 0).k), false), (true, true), (true, true)]) := by cases z <;> kernel_rfl
theorem sdI1 (d : F) : valR ((run Tryz.prog EH OS0 80).1 188 [.f INF, .fl d, .b true] [] (some [true])) = some (.tup [.fl F.zero, .i .i64 10], some [], [(true, true)]) := by kernel_rfl
theorem sdI0 (d : F) : valR ((run Tryz.prog EH OS0 80).1 188 [.f INF, .fl d, .b false] [] (some [true])) = some (.tup [.fl F.max, .i .i64 0], some [], [(true, true)]) := by kernel_rfl
theorem sdJ1 (d : F) : valR ((run Tryz.prog EH OS0 80).1 188 [.f NINF, .fl d, .b true] [] (some [false, true])) = some (.tup [.fl F.min, .i .i64 0], some [], [(true, true), (false, false)]) := by kernel_rfl
theorem sdJ0 (d : F) : valR ((run Tryz.prog EH OS0 80).1 188 [.f NINF, .fl d, .b false] [] (some [false, true])) = some (.tup [.fl F.zero, .i .i64 10], some [], [(true, true), (false, false)]) := by kernel_rfl
theorem sdZ1 (d : F) : valR ((run Tryz.prog EH OS0 80).1 188 [.f NEG0, .fl d, .b true] [] (some [false, false, true, false, false, false, true, false, false])) = some (.tup [.f 1, .i .i64 0], some [], [(false, false), (false, false), (true, true), (false, false), (false, false), (false, false), (decide ((toF 0).k < d.k), true), (false, false), (false, false)]) := by kernel_rfl
theorem sdZ2 (d : F) : valR ((run Tryz.prog EH OS0 80).1 188 [.f NEG0, .fl d, .b true] [] (some [false, false, false, false, true])) = some (.tup [.fl F.zero, .i .i64 0], some [], [(true, true), (false, false), (decide ((toF 0).k < d.k), false), (false, false), (false, false)]) := by kernel_rfl
theorem sdZ3 (d : F) : valR ((run Tryz.prog EH OS0 80).1 188 [.f NEG0, .fl d, .b false] [] (some [false, false, true, false, false, false, true, false, false])) = some (.tup [.f 9223372036854775809, .i .i64 0], some [], [(false, false), (false, false), (true, true), (false, false), (false, false), (false, false), (decide (d.k < (toF 0).k), true), (false, false), (false, false)]) := by kernel_rfl
theorem sdZ4 (d : F) : valR ((run Tryz.prog EH OS0 80).1 188 [.f NEG0, .fl d, .b false] [] (some [false, false, false, false, true])) = some (.tup [.fl F.zero, .i .i64 0], some [], [(true, true), (false, false), (decide (d.k < (toF 0).k), false), (false, false), (false, false)]) := by kernel_rfl
theorem ret_tw {a b : Nat} {n m : Int} (h : a = b) (k : n = m) : Ending.returned (.tuple #[.float .f64 a, .int .i64 n]) = .returned (.tuple #[.float .f64 b, .int .i64 m]) := by rw [h, k]
theorem bif_pz {c : F} {z : Bool} (h : pz c = z) : (bif z then F.zero else c) = c := by
  cases z
  · rfl
  · have : c.k = (toF 0).k := of_decide_eq_true h
    rw [zero_k'] at this
    exact (F.ext' this : c = F.zero).symm
theorem side_F (c d : F) (up : Bool) (w : World) : Calls Tryz.prog 188 #[.float .f64 c.b, .float .f64 d.b, .bool up] w fun e w' => e = .returned (.tuple #[.float .f64 (sideF c (decide (0 < d.k)) (decide (d.k < 0)) up).1.b, .int .i64 (sideF c (decide (0 < d.k)) (decide (d.k < 0)) up).2]) ∧ Below w.heap.size w w' := by
  have e0 := zero_k'
  have hc := c.hk
  have hT := T_num
  have t : ∀ {l : Obs}, obsB l = true → obsB ((true, true) :: (true, true) :: l) = true := fun h => obsB_yes rfl (obsB_yes rfl h)
  have t2 : obsB [(true, true), (true, true)] = true := obsB_yes rfl (obsB_yes rfl obsB_nil)
  cases up
  · cases h : decide (d.k < (toF 0).k)
    · have hd : decide (d.k < 0) = false := by rw [e0] at h; exact h
      have e1 : sideF c (decide (0 < d.k)) (decide (d.k < 0)) false = (c, 0) := by rw [hd]; rfl
      rw [e1]
      refine (calls_of_val goodH oracleS1 80 (sdD4 c d (pz c)) (ObsOk.of_B (obsB_yes rfl (obsB_yes rfl (obsB_yes h t2)))) rfl rfl w).mono ?_
      rintro e w' ⟨rfl, hb⟩
      exact ⟨ret_tw (by rw [bif_pz rfl]) rfl, hb⟩
    · have hd : decide (d.k < 0) = true := by rw [e0] at h; exact h
      cases h2 : decide (-(T : Int) < c.k - 1)
      · have e1 : sideF c (decide (0 < d.k)) (decide (d.k < 0)) false = (F.zero, 10) := by
          rw [hd]; show dnN c = _; unfold dnN; rw [if_neg (of_decide_eq_false h2)]
        rw [e1]
        exact calls_of_val goodH oracleS1 80 (sdD3 c d) (ObsOk.of_B (t (obsB_yes h2 (obsB_yes h t2)))) rfl rfl w
      · have e1 : sideF c (decide (0 < d.k)) (decide (d.k < 0)) false = (F.of (c.k - 1), 0) := by
          rw [hd]; show dnN c = _; unfold dnN; rw [if_pos (of_decide_eq_true h2)]
        rw [e1]
        refine (calls_of_val goodH oracleS1 80 (sdD1 c d (pz (F.of (c.k - 1)))) (ObsOk.of_B (obsB_yes rfl (obsB_yes rfl (obsB_yes h2 (obsB_yes h t2))))) rfl rfl w).mono ?_
        rintro e w' ⟨rfl, hb⟩
        exact ⟨ret_tw (by rw [bif_pz rfl]) rfl, hb⟩
  · cases h : decide ((toF 0).k < d.k)
    · have hd : decide (0 < d.k) = false := by rw [e0] at h; exact h
      have e1 : sideF c (decide (0 < d.k)) (decide (d.k < 0)) true = (c, 0) := by rw [hd]; rfl
      rw [e1]
      refine (calls_of_val goodH oracleS1 80 (sdU4 c d (pz c)) (ObsOk.of_B (obsB_yes rfl (obsB_yes rfl (obsB_yes h t2)))) rfl rfl w).mono ?_
      rintro e w' ⟨rfl, hb⟩
      exact ⟨ret_tw (by rw [bif_pz rfl]) rfl, hb⟩
    · have hd : decide (0 < d.k) = true := by rw [e0] at h; exact h
      cases h2 : decide (c.k + 1 < (T : Int))
      · have e1 : sideF c (decide (0 < d.k)) (decide (d.k < 0)) true = (F.zero, 10) := by
          rw [hd]; show upN c = _; unfold upN; rw [if_neg (of_decide_eq_false h2)]
        rw [e1]
        exact calls_of_val goodH oracleS1 80 (sdU3 c d) (ObsOk.of_B (t (obsB_yes h2 (obsB_yes h t2)))) rfl rfl w
      · have e1 : sideF c (decide (0 < d.k)) (decide (d.k < 0)) true = (F.of (c.k + 1), 0) := by
          rw [hd]; show upN c = _; unfold upN; rw [if_pos (of_decide_eq_true h2)]
        rw [e1]
        cases h3 : decide (c.k = -1)
        · refine calls_of_val goodH oracleS1 80 (sdU1 c d) (ObsOk.of_B (obsB_yes ?_ (obsB_yes rfl (obsB_yes h3 (obsB_yes h2 (obsB_yes h t2)))))) rfl rfl w
          have := of_decide_eq_false h3; have := of_decide_eq_true h2
          refine decide_eq_false ?_
          rw [e0, F.of_k (by omega)]; omega
        · have hk := of_decide_eq_true h3
          have ez : F.of (c.k + 1) = F.zero := F.ext' (by rw [hk, F.of_k (by omega)]; rfl)
          rw [ez]
          exact calls_of_val goodH oracleS1 80 (sdU2 c d) (ObsOk.of_B (t (obsB_yes rfl (obsB_yes h3 (obsB_yes h2 (obsB_yes h t2)))))) rfl rfl w
theorem side_W (v : Nat) (d : F) (up : Bool) (hb : badB v = true) (w : World) : Calls Tryz.prog 188 #[.float .f64 v, .float .f64 d.b, .bool up] w fun e w' => e = .returned (.tuple #[.float .f64 (sideW v (decide (0 < d.k)) (decide (d.k < 0)) up).1.b, .int .i64 (sideW v (decide (0 < d.k)) (decide (d.k < 0)) up).2]) ∧ Below w.heap.size w w' := by
  have e0 := zero_k'
  have f2 : obsB [(false, false), (false, false)] = true := obsB_yes rfl (obsB_yes rfl obsB_nil)
  rcases badB_or hb with rfl | rfl | rfl
  · cases up
    · exact calls_of_val goodH oracleS0 80 (sdI0 d) (ObsOk.of_B (obsB_yes rfl obsB_nil)) rfl rfl w
    · exact calls_of_val goodH oracleS0 80 (sdI1 d) (ObsOk.of_B (obsB_yes rfl obsB_nil)) rfl rfl w
  · cases up
    · exact calls_of_val goodH oracleS0 80 (sdJ0 d) (ObsOk.of_B (obsB_yes rfl (obsB_yes rfl obsB_nil))) rfl rfl w
    · exact calls_of_val goodH oracleS0 80 (sdJ1 d) (ObsOk.of_B (obsB_yes rfl (obsB_yes rfl obsB_nil))) rfl rfl w
  · cases up
    · cases h : decide (d.k < (toF 0).k)
      · have hd : decide (d.k < 0) = false := by rw [e0] at h; exact h
        have e1 : sideW NEG0 (decide (0 < d.k)) (decide (d.k < 0)) false = (F.zero, 0) := by rw [hd]; rfl
        rw [e1]
        exact calls_of_val goodH oracleS0 80 (sdZ4 d) (ObsOk.of_B (obsB_yes rfl (obsB_yes rfl (obsB_yes h f2)))) rfl rfl w
      · have hd : decide (d.k < 0) = true := by rw [e0] at h; exact h
        have e1 : sideW NEG0 (decide (0 < d.k)) (decide (d.k < 0)) false = (F.of (-1), 0) := by rw [hd]; generalize decide (0 < d.k) = p; cases p <;> decide +kernel
        rw [e1]
        refine (calls_of_val goodH oracleS0 80 (sdZ3 d) (ObsOk.of_B (obsB_yes rfl (obsB_yes rfl (obsB_yes rfl (obsB_yes rfl (obsB_yes rfl (obsB_yes rfl (obsB_yes h f2)))))))) rfl rfl w).mono ?_
        rintro e w' ⟨rfl, hb⟩
        exact ⟨ret_tw (by decide +kernel) rfl, hb⟩
    · cases h : decide ((toF 0).k < d.k)
      · have hd : decide (0 < d.k) = false := by rw [e0] at h; exact h
        have e1 : sideW NEG0 (decide (0 < d.k)) (decide (d.k < 0)) true = (F.zero, 0) := by rw [hd]; rfl
        rw [e1]
        exact calls_of_val goodH oracleS0 80 (sdZ2 d) (ObsOk.of_B (obsB_yes rfl (obsB_yes rfl (obsB_yes h f2)))) rfl rfl w
      · have hd : decide (0 < d.k) = true := by rw [e0] at h; exact h
        have e1 : sideW NEG0 (decide (0 < d.k)) (decide (d.k < 0)) true = (F.of 1, 0) := by rw [hd]; generalize decide (d.k < 0) = p; cases p <;> decide +kernel
        rw [e1]
        refine (calls_of_val goodH oracleS0 80 (sdZ1 d) (ObsOk.of_B (obsB_yes rfl (obsB_yes rfl (obsB_yes rfl (obsB_yes rfl (obsB_yes rfl (obsB_yes rfl (obsB_yes h f2)))))))) rfl rfl w).mono ?_
        rintro e w' ⟨rfl, hb⟩
        exact ⟨ret_tw (by decide +kernel) rfl, hb⟩
theorem sideK : PlainOk Tryz.prog 188 kSide := by
  intro args ds x ds' ob h ho
  unfold kSide at h
  split at h
  · rename_i c d up
    simp only [Option.some.injEq, Prod.mk.injEq] at h; obtain ⟨rfl, _, _⟩ := h
    exact ⟨[.float .f64 c.b, .float .f64 d.b, .bool up], _, rfl, rfl, side_F c d up⟩
  · rename_i v d up
    simp only [Option.some.injEq, Prod.mk.injEq] at h; obtain ⟨rfl, _, rfl⟩ := h
    exact ⟨[.float .f64 v, .float .f64 d.b, .bool up], _, rfl, rfl, side_W v d up (obs1 ho)⟩
  · cases h
/-! ## .. with words -/
theorem sdN1 (c : F) (z : Bool) : valR ((run Tryz.prog EH OS1 80).1 188 [.fl c, .f NEG0, .b true] [] (some [false, z])) = some (.tup [.fl (bif z then F.zero else c), .i .i64 0], some [], [(pz c, z), (true, true), (false, false), (true, true), (true, true)]) := by cases z <;> kernel_rfl
theorem sdN0 (c : F) (z : Bool) : valR ((run Tryz.prog EH OS1 80).1 188 [.fl c, .f NEG0, .b false] [] (some [false, z])) = some (.tup [.fl (bif z then F.zero else c), .i .i64 0], some [], [(pz c, z), (true, true), (false, false), (true, true), (true, true)]) := by cases z <;> kernel_rfl
theorem dF_right {d : Nat} (h : rightB d = true) : dF d = toF d := by unfold dF; rw [h]; rfl
theorem dF_NEG0 : dF NEG0 = F.zero := rfl
theorem side_N (c : F) (up : Bool) (w : World) : Calls Tryz.prog 188 #[.float .f64 c.b, .float .f64 NEG0, .bool up] w fun e w' => e = .returned (.tuple #[.float .f64 c.b, .int .i64 0]) ∧ Below w.heap.size w w' := by
  have t2 : obsB [(true, true), (false, false), (true, true), (true, true)] = true := by decide
  cases up
  · refine (calls_of_val goodH oracleS1 80 (sdN0 c (pz c)) (ObsOk.of_B (obsB_yes rfl t2)) rfl rfl w).mono ?_
    rintro e w' ⟨rfl, hb⟩
    exact ⟨ret_tw (by rw [bif_pz rfl]) rfl, hb⟩
  · refine (calls_of_val goodH oracleS1 80 (sdN1 c (pz c)) (ObsOk.of_B (obsB_yes rfl t2)) rfl rfl w).mono ?_
    rintro e w' ⟨rfl, hb⟩
    exact ⟨ret_tw (by rw [bif_pz rfl]) rfl, hb⟩
theorem sideKD : PlainOk Tryz.prog 188 kSideD := by
  intro args ds x ds' ob h ho
  unfold kSideD at h
  split at h
  · rename_i c d up
    simp only [Option.some.injEq, Prod.mk.injEq] at h; obtain ⟨rfl, _, rfl⟩ := h
    refine ⟨[.float .f64 c.b, .float .f64 d, .bool up], _, rfl, rfl, ?_⟩
    rcases Bool.or_eq_true _ _ ▸ obs1 ho with h | h
    · have := side_F c (toF d) up
      rw [toF_b h] at this
      rw [dF_right h]; exact this
    · have := Nat.eq_of_beq_eq_true h
      subst this
      have e : sideF c (decide (0 < (dF NEG0).k)) (decide ((dF NEG0).k < 0)) up = (c, 0) := by cases up <;> rfl
      rw [e]
      exact side_N c up
  · rename_i v d up
    simp only [Option.some.injEq, Prod.mk.injEq] at h; obtain ⟨rfl, _, rfl⟩ := h
    have hv := ho _ (List.mem_cons_self ..)
    have hd : rightB d = true := ho _ (List.mem_cons_of_mem _ (List.mem_cons_self ..))
    refine ⟨[.float .f64 v, .float .f64 d, .bool up], _, rfl, rfl, ?_⟩
    rw [dF_right hd]
    rcases badC_or hv with h | rfl
    · have := fun w => side_W v (toF d) up h w
      rw [toF_b hd] at this
      exact this
    · have := side_F F.zero (toF d) up
      rw [toF_b hd] at this
      exact this
  · cases h
theorem Ldexp_Z (n : Int) (w : World) : Calls Tryz.prog 105 #[.float .f64 0, .int .i64 n] w fun e w' => e = .returned (.float .f64 0) ∧ w = w' := by
  have H := Lib.hid (fun w => ldexp_zero n w)
  go_enter Tryz.func105, Tryz.ntmps105
  go_wp2_with (go_at_call 176; refine (H.out _).mono ?_; rintro e w' ⟨rfl, rfl⟩)
  go_ret
  exact ⟨ret_float rfl, rfl⟩
theorem lhK : PlainOk Tryz.prog 105 (kLh ldW) := by
  intro args ds x ds' ob h ho
  unfold kLh at h
  split at h
  · rename_i x n
    split at h
    · rename_i k hk
      split at h
      · rename_i ds1 ob1 h1
        simp only [Option.some.injEq, Prod.mk.injEq] at h; obtain ⟨rfl, _, rfl⟩ := h
        have hb := of_decide_eq_true (ho _ (List.mem_cons_self ..))
        have hr := (takeB_ok h1 (fun p hp => ho p (List.mem_cons_of_mem _ hp))).symm
        have hr : rightB (ldW x k) = true := (Bool.and_eq_true _ _ ▸ hr).1
        refine ⟨[.float .f64 x.b, .int .i64 k], .float .f64 (ldW x k), plains_cons rfl (plains_cons (intS_plain hk) plains_nil), ?_, fun w => (Ldexp_w x k hb.1 hb.2 w).mono ?_⟩
        · show some (Value.float .f64 (toF (ldW x k)).b) = _
          rw [toF_b hr]
        · rintro e w' ⟨rfl, rfl⟩; exact ⟨rfl, Below.refl _ _⟩
      · rename_i ds1 ob1 h1
        simp only [Option.some.injEq, Prod.mk.injEq] at h; obtain ⟨rfl, _, rfl⟩ := h
        have hb := of_decide_eq_true (ho _ (List.mem_cons_self ..))
        refine ⟨[.float .f64 x.b, .int .i64 k], .float .f64 (ldW x k), plains_cons rfl (plains_cons (intS_plain hk) plains_nil), rfl, fun w => (Ldexp_w x k hb.1 hb.2 w).mono ?_⟩
        rintro e w' ⟨rfl, rfl⟩; exact ⟨rfl, Below.refl _ _⟩
      · cases h
    · cases h
  · rename_i v n
    split at h
    · rename_i k hk
      simp only [Option.some.injEq, Prod.mk.injEq] at h; obtain ⟨rfl, _, rfl⟩ := h
      refine ⟨[.float .f64 v, .int .i64 k], .float .f64 v, plains_cons rfl (plains_cons (intS_plain hk) plains_nil), rfl, ?_⟩
      rcases Bool.or_eq_true _ _ ▸ obs1 ho with h | h
      · have := Nat.eq_of_beq_eq_true h
        subst this
        intro w
        refine (Ldexp_NEG0 k w).mono ?_
        rintro e w' ⟨rfl, rfl⟩; exact ⟨rfl, Below.refl _ _⟩
      · have := Nat.eq_of_beq_eq_true h
        subst this
        intro w
        refine (Ldexp_Z k w).mono ?_
        rintro e w' ⟨rfl, rfl⟩; exact ⟨rfl, Below.refl _ _⟩
    · cases h
  · cases h
theorem infKC : PlainOk Tryz.prog 166 kInfC := by
  intro args ds x ds' ob h ho
  unfold kInfC at h
  split at h
  · rename_i x n
    simp only [Option.some.injEq, Prod.mk.injEq] at h; obtain ⟨rfl, _, rfl⟩ := h
    have hn := of_decide_eq_true (obs1 ho)
    refine ⟨[.float .f64 x.b, .int .i64 n], .bool false, rfl, rfl, fun w => ?_⟩
    rcases hn with rfl | rfl | rfl
    · refine (isInf_F x w).mono ?_
      rintro e w' ⟨rfl, rfl⟩; exact ⟨rfl, Below.refl _ _⟩
    · refine (infP_F x w).mono ?_
      rintro e w' ⟨rfl, rfl⟩; exact ⟨rfl, Below.refl _ _⟩
    · refine (infN_F x w).mono ?_
      rintro e w' ⟨rfl, rfl⟩; exact ⟨rfl, Below.refl _ _⟩
  · rename_i v
    split at h
    · rename_i d ds1 ob1 h1
      simp only [Option.some.injEq, Prod.mk.injEq] at h; obtain ⟨rfl, _, rfl⟩ := h
      have hb := ho _ (List.mem_cons_self ..)
      have hd := takeB_ok h1 (fun p hp => ho p (List.mem_cons_of_mem _ hp))
      have hi : v < 18446744073709551616 ∧ (Ieee.double.order (v % 9223372036854775808) 9218868437227405311 == some .gt) = (Nat.beq v INF || Nat.beq v NINF) := by
        rcases badC_or hb with h | rfl
        · exact ⟨by rcases badB_or h with rfl | rfl | rfl <;> decide, inf_word h⟩
        · exact ⟨by decide, by decide +kernel⟩
      refine ⟨[.float .f64 v, .int .i64 0], .bool d, rfl, rfl, fun w => (isInf_w v w hi.1).mono ?_⟩
      rintro e w' ⟨rfl, rfl⟩
      exact ⟨by rw [hi.2, hd], Below.refl _ _⟩
    · cases h
  · cases h
/-! ## far, Add, Sub -/
def kFar : List SV → Dec → Option (SV × Dec × Obs)
  | [.fl a, .fl b, .fl s, .b up], ds => some (.tup [.fl (dAdd up a b).1, .si .i64 (dAdd up a b).2], ds, [(decide (farC a b s), true)])
  | _, _ => none
def OFa (L : F → Int → Nat) : OracleF := lookO [(188, plainO kSide), (136, plainO kAbsG), (105, plainO (kLg L))]
theorem oracleFa : OracleOk Tryz.prog (OFa ldW) := .cons sideK.of (.cons absK.of (.cons lgK.of (.nil _)))
def one_ : F := toF 4607182418800017408
def sdR (c d : F) (up : Bool) : SV := .tup [.fl (sideF c (decide (0 < d.k)) (decide (d.k < 0)) up).1, .si .i64 (sideF c (decide (0 < d.k)) (decide (d.k < 0)) up).2]
def f60 (L : F → Int → Nat) (x : F) (d : Bool) : Obs := [(true, true), (rightB (L x (-60)), d)]
theorem faRun1 (L : F → Int → Nat) (a b s : F) (up : Bool) : valR ((run Tryz.prog EH (OFa L) 80).1 196 [.fl a, .fl b, .fl s, .b up] [] (some [true, true, true, true])) = some (sdR s a up, some [], (decide ((toF (L a (-60))).abs.k < one_.k), true) :: (f60 L s true ++ (f60 L b true ++ f60 L a true))) := by kernel_rfl
theorem faRun2 (L : F → Int → Nat) (a b s : F) (up : Bool) : valR ((run Tryz.prog EH (OFa L) 80).1 196 [.fl a, .fl b, .fl s, .b up] [] (some [true, true, true, false, true])) = some (sdR s b up, some [], (decide ((toF (L b (-60))).abs.k < one_.k), true) :: (decide ((toF (L a (-60))).abs.k < one_.k), false) :: (f60 L s true ++ (f60 L b true ++ f60 L a true))) := by kernel_rfl
theorem faRun3 (L : F → Int → Nat) (a b s : F) (up : Bool) : valR ((run Tryz.prog EH (OFa L) 80).1 196 [.fl a, .fl b, .fl s, .b up] [] (some [false, true, true, true])) = some (sdR s a up, some [], (true, true) :: (Nat.beq (L a (-60)) NEG0, true) :: (f60 L s true ++ (f60 L b true ++ f60 L a false))) := by kernel_rfl
theorem faRun4 (L : F → Int → Nat) (a b s : F) (up : Bool) : valR ((run Tryz.prog EH (OFa L) 80).1 196 [.fl a, .fl b, .fl s, .b up] [] (some [true, false, true, false, true])) = some (sdR s b up, some [], (true, true) :: (Nat.beq (L b (-60)) NEG0, true) :: (decide ((toF (L a (-60))).abs.k < one_.k), false) :: (f60 L s true ++ (f60 L b false ++ f60 L a true))) := by kernel_rfl
theorem faRun4' (L : F → Int → Nat) (a b s : F) (up : Bool) : valR ((run Tryz.prog EH (OFa L) 80).1 196 [.fl a, .fl b, .fl s, .b up] [] (some [false, false, true, true])) = some (sdR s a up, some [], (true, true) :: (Nat.beq (L a (-60)) NEG0, true) :: (f60 L s true ++ (f60 L b false ++ f60 L a false))) := by kernel_rfl
theorem faRun4'' (L : F → Int → Nat) (a b s : F) (up : Bool) : valR ((run Tryz.prog EH (OFa L) 80).1 196 [.fl a, .fl b, .fl s, .b up] [] (some [true, false, true, true])) = some (sdR s a up, some [], (decide ((toF (L a (-60))).abs.k < one_.k), true) :: (f60 L s true ++ (f60 L b false ++ f60 L a true))) := by kernel_rfl
def tw (a b s : F) : F := aN (sN a (sN s (sN s a))) (sN b (sN s a))
def ob2w (o : Option Nat) (r : Obs) : Obs := (o.isSome, true) :: (rightB (o.getD 0), true) :: r
def otw (a b s : F) (r : Obs) : Obs := ob2w (Ieee.double.add (sN a (sN s (sN s a))).b (sN b (sN s a)).b) (ob2w (Ieee.double.sub b.b (sN s a).b) (ob2w (Ieee.double.sub a.b (sN s (sN s a)).b) (ob2w (Ieee.double.sub s.b (sN s a).b) (ob2w (Ieee.double.sub s.b a.b) r))))
theorem faRun5 (L : F → Int → Nat) (a b s : F) (up : Bool) : valR ((run Tryz.prog EH (OFa L) 80).1 196 [.fl a, .fl b, .fl s, .b up] [] (some [true, true, true, false, false])) = some (sdR s (tw (toF (L a (-60))) (toF (L b (-60))) (toF (L s (-60)))) up, some [], otw (toF (L a (-60))) (toF (L b (-60))) (toF (L s (-60))) [(decide ((toF (L b (-60))).abs.k < one_.k), false), (decide ((toF (L a (-60))).abs.k < one_.k), false), (true, true), (rightB (L s (-60)), true), (true, true), (rightB (L b (-60)), true), (true, true), (rightB (L a (-60)), true)]) := by kernel_rfl
end Go.Proofs.YtmhhopfffeijnaaGreat
