/- Walks of the laws of layer 3: the examples. -/
import Derived.Test.YtkgpcnehffiifaaUw
namespace Go.Proofs.Ytkgpcnehffiifaa
set_option linter.all false
open Go.RowKit Bu

set_option maxRecDepth 100000 in
set_option maxHeartbeats 1000000 in
theorem same1_w (a b : F) (w : World) :
    Calls Try.prog 30 #[.float .f64 a.b, .float .f64 b.b] w fun e w' => e = .returned (.bool (decide (a = b))) ∧ w = w' := by
  have hb := run_fbits
  have e : ((a.b : Int) == (b.b : Int)) = decide (a = b) := by
    rw [Bool.eq_iff_iff]; simp only [beq_iff_eq, decide_eq_true_eq]
    exact ⟨fun h => F.b_inj (by omega), fun h => by rw [h]⟩
  have E := Lib.hid e
  clear e
  go_enter Try.func30, Try.ntmps30
  go_wp2
  go_ret
  exact ⟨by rw [← E.out]; exact ret_bool rfl, rfl⟩

set_option maxRecDepth 100000 in
set_option maxHeartbeats 1000000 in
theorem same2_w (a b c d : F) (w : World) :
    Calls Try.prog 16 #[.agg #[.float .f64 a.b, .float .f64 b.b], .agg #[.float .f64 c.b, .float .f64 d.b]] w fun e w' => e = .returned (.bool (decide (a = c ∧ b = d))) ∧ Below w.heap.size w w' := by
  by_cases h1 : a = c
  · by_cases h2 : b = d
    · have t1 : decide (a = c) = true := by simpa using h1
      have t2 : decide (b = d) = true := by simpa using h2
      have H := Lib.hid (show decide (a = c ∧ b = d) = true by simp [h1, h2])
      clear h1 h2
      go_enter Try.func16, Try.ntmps16
      go_wp2_with (go_at_call 30; refine (same1_w _ _ _).mono ?_; rintro e w' ⟨rfl, rfl⟩)
      go_ret
      exact ⟨by rw [H.out]; exact ret_bool rfl, ((Below.refl _ _).alloc (Nat.le_refl _) _).alloc (by simp) _⟩
    · have t1 : decide (a = c) = true := by simpa using h1
      have t2 : decide (b = d) = false := by simpa using h2
      have H := Lib.hid (show decide (a = c ∧ b = d) = false by simp [h2])
      clear h1 h2
      go_enter Try.func16, Try.ntmps16
      go_wp2_with (go_at_call 30; refine (same1_w _ _ _).mono ?_; rintro e w' ⟨rfl, rfl⟩)
      go_ret
      exact ⟨by rw [H.out]; exact ret_bool rfl, ((Below.refl _ _).alloc (Nat.le_refl _) _).alloc (by simp) _⟩
  · have t1 : decide (a = c) = false := by simpa using h1
    have H := Lib.hid (show decide (a = c ∧ b = d) = false by simp [h1])
    clear h1
    go_enter Try.func16, Try.ntmps16
    go_wp2_with (go_at_call 30; refine (same1_w _ _ _).mono ?_; rintro e w' ⟨rfl, rfl⟩)
    go_ret
    exact ⟨by rw [H.out]; exact ret_bool rfl, ((Below.refl _ _).alloc (Nat.le_refl _) _).alloc (by simp) _⟩

theorem split_lit (u : Nat) (x : F) (ui : Int) (xb : Nat) (r1 : Bool) (r2 : Int) (hu : ui = (u : Int)) (hx : x.b = xb) (hu2 : (u : Int) ≤ 18446744073709551615) (h0 : 0 ≤ x.k) (h1 : x.k ≤ 4607182418800017408) (hr : (splitF u x).1 = r1 ∧ ((splitF u x).2 : Int) = r2) (w : World) :
    Calls Try.prog 12 #[.int .u64 ui, .float .f64 xb] w fun e w' => e = .returned (.tuple #[.bool r1, .int .u64 r2, .int .i64 0]) ∧ Below w.heap.size w w' := by
  subst hu hx
  rw [← hr.1, ← hr.2]
  exact split_w u hu2 x h0 h1 w
theorem of_lit (u : Nat) (ui : Int) (a b : Nat) (hu : ui = (u : Int)) (hu2 : (u : Int) ≤ 18446744073709551615) (hr : (unitOf u).lo.b = a ∧ (unitOf u).hi.b = b) (w : World) :
    Calls Try.prog 7 #[.int .u64 ui] w fun e w' => e = .returned (.agg #[.float .f64 a, .float .f64 b]) ∧ Below w.heap.size w w' := by
  subst hu
  rw [← hr.1, ← hr.2]
  exact unitOf_w u hu2 w
theorem same_lit (a b c d : Nat) (ha : rightB a = true) (hb : rightB b = true) (hac : a = c) (hbd : b = d) (w : World) :
    Calls Try.prog 16 #[.agg #[.float .f64 a, .float .f64 b], .agg #[.float .f64 c, .float .f64 d]] w fun e w' => e = .returned (.bool true) ∧ Below w.heap.size w w' := by
  subst hac hbd
  obtain ⟨x, rfl⟩ := F_of_right ha
  obtain ⟨y, rfl⟩ := F_of_right hb
  have := same2_w x y x y w
  simpa using this
theorem ldexp_lit (x y : F) (n : Int) (a b : Nat) (ha : x.b = a) (hb : y.b = b) (h : Sc x y n) (w : World) :
    Calls Try.prog 9 #[.float .f64 a, .int .i64 n] w fun e w' => e = .returned (.float .f64 b) ∧ w = w' := by
  subst ha hb
  exact Ldexp_exact x y n w h
theorem half_lit (u : Nat) (ui : Int) (r1 : Bool) (r2 : Int) (hu : ui = (u : Int)) (hu2 : (u : Int) ≤ 18446744073709551615) (hr : decide (u < 9223372036854775808) = r1 ∧ ((2 * u % 18446744073709551616 : Nat) : Int) = r2) (w : World) :
    Calls Try.prog 13 #[.int .u64 ui] w fun e w' => e = .returned (.tuple #[.bool r1, .int .u64 r2]) ∧ w = w' := by
  subst hu
  rw [← hr.1, ← hr.2]
  exact half_w u hu2 w

theorem k_of (n : Int) (h : 0 ≤ n ∧ n ≤ 4607182418800017408) : 0 ≤ (F.of n).k ∧ (F.of n).k ≤ 4607182418800017408 := by
  have hT := T_num
  rw [F.of_k (by omega)]; exact h

theorem aw1 (w : World) : Calls Try.prog 12 #[.int .u64 4611686018427387904, .float .f64 4602678819172646912] w fun e w' => e = .returned (.tuple #[.bool true, .int .u64 9223372036854775808, .int .i64 0]) ∧ Below w.heap.size w w' := split_lit 4611686018427387904 (F.of 4602678819172646912) 4611686018427387904 4602678819172646912 true 9223372036854775808 (by decide) (by decide +kernel) (by decide) (k_of _ (by decide)).1 (k_of _ (by decide)).2 (by decide +kernel) w
theorem aw2 (w : World) : Calls Try.prog 12 #[.int .u64 9223372036854775808, .float .f64 4602678819172646912] w fun e w' => e = .returned (.tuple #[.bool false, .int .u64 0, .int .i64 0]) ∧ Below w.heap.size w w' := split_lit 9223372036854775808 (F.of 4602678819172646912) 9223372036854775808 4602678819172646912 false 0 (by decide) (by decide +kernel) (by decide) (k_of _ (by decide)).1 (k_of _ (by decide)).2 (by decide +kernel) w
theorem aw3 (w : World) : Calls Try.prog 12 #[.int .u64 77, .float .f64 4607182418800017408] w fun e w' => e = .returned (.tuple #[.bool true, .int .u64 77, .int .i64 0]) ∧ Below w.heap.size w w' := split_lit 77 (F.of 4607182418800017408) 77 4607182418800017408 true 77 (by decide) (by decide +kernel) (by decide) (k_of _ (by decide)).1 (k_of _ (by decide)).2 (by decide +kernel) w
theorem aw4 (w : World) : Calls Try.prog 12 #[.int .u64 77, .float .f64 0] w fun e w' => e = .returned (.tuple #[.bool false, .int .u64 77, .int .i64 0]) ∧ Below w.heap.size w w' := split_lit 77 (F.of 0) 77 0 false 77 (by decide) (by decide +kernel) (by decide) (k_of _ (by decide)).1 (k_of _ (by decide)).2 (by decide +kernel) w
theorem aw5 (w : World) : Calls Try.prog 12 #[.int .u64 9223372036854775808, .float .f64 4604930618986332160] w fun e w' => e = .returned (.tuple #[.bool true, .int .u64 12297829382473034410, .int .i64 0]) ∧ Below w.heap.size w w' := split_lit 9223372036854775808 (F.of 4604930618986332160) 9223372036854775808 4604930618986332160 true 12297829382473034410 (by decide) (by decide +kernel) (by decide) (k_of _ (by decide)).1 (k_of _ (by decide)).2 (by decide +kernel) w
theorem aw6 (w : World) : Calls Try.prog 7 #[.int .u64 9223372036854775808] w fun e w' => e = .returned (.agg #[.float .f64 4602678819172646912, .float .f64 4602678819172646912]) ∧ Below w.heap.size w w' := of_lit 9223372036854775808 9223372036854775808 4602678819172646912 4602678819172646912 (by decide) (by decide) (by decide +kernel) w
theorem aw7 (w : World) : Calls Try.prog 7 #[.int .u64 1] w fun e w' => e = .returned (.agg #[.float .f64 4318952042648305664, .float .f64 4318952042648305664]) ∧ Below w.heap.size w w' := of_lit 1 1 4318952042648305664 4318952042648305664 (by decide) (by decide) (by decide +kernel) w
theorem aw8 (w : World) : Calls Try.prog 7 #[.int .u64 18446744073709551615] w fun e w' => e = .returned (.agg #[.float .f64 4607182418800017407, .float .f64 4607182418800017408]) ∧ Below w.heap.size w w' := of_lit 18446744073709551615 18446744073709551615 4607182418800017407 4607182418800017408 (by decide) (by decide) (by decide +kernel) w
theorem aw9 (w : World) : Calls Try.prog 9 #[.float .f64 4607182418800017408, .int .i64 (-64)] w fun e w' => e = .returned (.float .f64 4318952042648305664) ∧ w = w' := ldexp_lit (F.of 4607182418800017408) (F.of 4318952042648305664) (-64) 4607182418800017408 4318952042648305664 (by decide +kernel) (by decide +kernel) (by unfold Sc; decide +kernel) w
theorem aw10 (w : World) : Calls Try.prog 9 #[.float .f64 4607182418800017408, .int .i64 (-53)] w fun e w' => e = .returned (.float .f64 4368491638549381120) ∧ w = w' := ldexp_lit (F.of 4607182418800017408) (F.of 4368491638549381120) (-53) 4607182418800017408 4368491638549381120 (by decide +kernel) (by decide +kernel) (by unfold Sc; decide +kernel) w
theorem aw10b (w : World) : Calls Try.prog 9 #[.float .f64 4607182418800017408, .int .i64 (-53)] w fun e w' => e = .returned (.float .f64 4368491638549381120) ∧ Below w.heap.size w w' := (aw10 w).mono fun e w' ⟨h1, h2⟩ => ⟨h1, by rw [← h2]; exact Below.refl _ _⟩
theorem aw11 (w : World) : Calls Try.prog 13 #[.int .u64 9223372036854775813] w fun e w' => e = .returned (.tuple #[.bool false, .int .u64 10]) ∧ w = w' := half_lit 9223372036854775813 9223372036854775813 false 10 (by decide) (by decide) (by decide) w
theorem aw12 (w : World) : Calls Try.prog 13 #[.int .u64 7] w fun e w' => e = .returned (.tuple #[.bool true, .int .u64 14]) ∧ w = w' := half_lit 7 7 true 14 (by decide) (by decide) (by decide) w
theorem aw13 (w : World) : (binOp .sub 23 (.float .f64 4607182418800017408) (.float .f64 4368491638549381120)).run Try.prog w = .ok (.float .f64 4607182418800017407) w := run_float_arith (P := Try.prog) w .sub 23 .f64 4607182418800017408 4368491638549381120 4607182418800017407 (by decide +kernel)

end Go.Proofs.Ytkgpcnehffiifaa
