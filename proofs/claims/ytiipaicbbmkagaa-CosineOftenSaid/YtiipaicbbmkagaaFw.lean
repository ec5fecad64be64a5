/- Walks of the small float functions. -/
import Derived.Test.YtiipaicbbmkagaaRows
import Derived.Test.YtiipaicbbmkagaaFb
import Derived.WalkKit
import Derived.WalkSpells
import Derived.WalkLawsBesides
import Derived.Laws.BitsAll
import Derived.Lib.Hide
namespace Go.Proofs.Ytiipaicbbmkagaa
set_option linter.all false
open Go.RowKit Bu

theorem ret_bool {a b : Bool} (h : a = b) : Ending.returned (.bool a) = .returned (.bool b) := by rw [h]
theorem ret_int {k : IntKind} {a b : Int} (h : a = b) : Ending.returned (.int k a) = .returned (.int k b) := by rw [h]
theorem ret_float {a b : Nat} (h : a = b) : Ending.returned (.float .f64 a) = .returned (.float .f64 b) := by rw [h]

@[go_sem] theorem ford_lt (x y : F) : (FloatKind.f64.format.order x.b y.b == some .lt) = decide (x.k < y.k) := order_lt x y
@[go_sem] theorem ford_gt (x y : F) : (FloatKind.f64.format.order x.b y.b == some .gt) = decide (y.k < x.k) := order_gt x y
@[go_sem] theorem ford_eq (x y : F) : (FloatKind.f64.format.order x.b y.b == some .eq) = decide (x.k = y.k) := order_eq x y
theorem b_zero : F.zero.b = 0 := by decide
theorem ford0_eq (x : F) : (FloatKind.f64.format.order x.b 0 == some .eq) = decide (x.k = 0) := by rw [← b_zero]; exact order_eq x F.zero
theorem ford0_lt (x : F) : (FloatKind.f64.format.order x.b 0 == some .lt) = decide (x.k < 0) := by rw [← b_zero]; exact order_lt x F.zero
theorem ford0_gt (x : F) : (FloatKind.f64.format.order x.b 0 == some .gt) = decide (0 < x.k) := by rw [← b_zero]; exact order_gt x F.zero

theorem run_fbits (x : Nat) (w : World) : (callFunc 94 #[.float .f64 x]).run Try.prog w = .ok (.value (.int .u64 x)) w := by
  rw [run_callFunc_extern (e := Extern.MathFloatBits.float64bits) Try.func94 (by kernel_rfl) (by kernel_rfl) (by kernel_rfl) (by kernel_rfl)]; rfl
theorem run_ffrom (x : Int) (w : World) : (callFunc 97 #[.int .u64 x]).run Try.prog w = .ok (.value (.float .f64 x.toNat)) w := by
  rw [run_callFunc_extern (e := Extern.MathFloatBits.float64frombits) Try.func97 (by kernel_rfl) (by kernel_rfl) (by kernel_rfl) (by kernel_rfl)]; rfl

set_option maxHeartbeats 400000 in
theorem isNaN_w (x : Nat) (w : World) :
    Calls Try.prog 92 #[.float .f64 x] w fun e w' => e = .returned (.bool (Ieee.double.order x x != some .eq)) ∧ w = w' := by
  go_enter Try.func92, Try.ntmps92
  go_wp2
  go_ret
  exact ⟨rfl, rfl⟩

theorem isNaN_F (x : F) (w : World) :
    Calls Try.prog 92 #[.float .f64 x.b] w fun e w' => e = .returned (.bool false) ∧ w = w' :=
  (isNaN_w x.b w).mono fun e w' ⟨h1, h2⟩ => ⟨by
    rw [h1]; refine ret_bool ?_
    have := order_eq x x
    simp only [decide_true, beq_iff_eq] at this
    simp [this], h2⟩

set_option maxHeartbeats 400000 in
theorem signbit_w (x : Nat) (w : World) (hx : x < 18446744073709551616) :
    Calls Try.prog 100 #[.float .f64 x] w fun e w' => e = .returned (.bool (decide (9223372036854775808 ≤ x))) ∧ w = w' := by
  have hb := run_fbits
  go_enter Try.func100, Try.ntmps100
  go_wp2
  go_ret
  refine ⟨ret_bool ?_, rfl⟩
  rw [Bool.eq_iff_iff]
  simp only [decide_eq_true_eq]
  unfold wrap64
  omega

set_option maxHeartbeats 400000 in
theorem abs_w (x : Nat) (w : World) (hx : x < 18446744073709551616) :
    Calls Try.prog 115 #[.float .f64 x] w fun e w' => e = .returned (.float .f64 (x % 9223372036854775808)) ∧ w = w' := by
  have hb := run_fbits
  have hf := run_ffrom
  go_enter Try.func115, Try.ntmps115
  go_wp2
  go_ret
  refine ⟨ret_float ?_, rfl⟩
  rw [u64_andNot _ _ (by omega) (by omega) (by omega) (by omega)]
  simp only [Int.toNat_natCast]
  rw [show (18446744073709551615 - (9223372036854775808 : Int).toNat) = 2 ^ 63 - 1 from by decide, Nat.and_two_pow_sub_one_eq_mod]


theorem abs_F (x : F) (w : World) :
    Calls Try.prog 115 #[.float .f64 x.b] w fun e w' => e = .returned (.float .f64 x.abs.b) ∧ w = w' :=
  (abs_w x.b w (by have := x.b_lt; omega)).mono fun e w' ⟨h1, h2⟩ => ⟨by rw [h1]; exact ret_float (F.abs_b x), h2⟩

set_option maxHeartbeats 400000 in
theorem isInf_w (x : Nat) (w : World) (hx : x < 18446744073709551616) :
    Calls Try.prog 91 #[.float .f64 x, .int .i64 0] w fun e w' => e = .returned (.bool (Ieee.double.order (x % 9223372036854775808) 9218868437227405311 == some .gt)) ∧ w = w' := by
  go_enter Try.func91, Try.ntmps91
  go_wp2_with (go_at_call 115; refine (abs_w _ _ (by omega)).mono ?_; rintro e w' ⟨rfl, rfl⟩)
  go_ret
  exact ⟨ret_bool rfl, rfl⟩

theorem isInf_F (x : F) (w : World) :
    Calls Try.prog 91 #[.float .f64 x.b, .int .i64 0] w fun e w' => e = .returned (.bool false) ∧ w = w' :=
  (isInf_w x.b w (by have := x.b_lt; omega)).mono fun e w' ⟨h1, h2⟩ => ⟨by
    rw [h1]; refine ret_bool ?_
    rw [F.abs_b, show (9218868437227405311 : Nat) = F.max.b from by decide, order_gt]
    have := x.abs.hk
    have e : F.max.k = (T : Int) - 1 := rfl
    simp; omega, h2⟩

theorem signbit_F (x : F) (w : World) :
    Calls Try.prog 100 #[.float .f64 x.b] w fun e w' => e = .returned (.bool (decide (x.k < 0))) ∧ w = w' :=
  (signbit_w x.b w (by have := x.b_lt; omega)).mono fun e w' ⟨h1, h2⟩ => ⟨by
    rw [h1]; refine ret_bool ?_
    rw [Bool.eq_iff_iff]
    have := x.hk
    have e := T_num
    unfold F.b
    simp only [decide_eq_true_eq]
    split <;> omega, h2⟩

set_option maxHeartbeats 400000 in
theorem right_F_w (x : F) (w : World) :
    Calls Try.prog 60 #[.float .f64 x.b] w fun e w' => e = .returned (.bool true) ∧ w = w' := by
  have ho := ford0_eq x
  by_cases h : x.k = 0
  · have h0 : (FloatKind.f64.format.order x.b 0 == some .eq) = true := by rw [ho]; simpa using h
    have hs : decide (x.k < 0) = false := by simp; omega
    clear ho h
    go_enter Try.func60, Try.ntmps60
    go_wp2_with (first | (go_at_call 92; refine (isNaN_F _ _).mono ?_; rintro e w' ⟨rfl, rfl⟩) | (go_at_call 91; refine (isInf_F _ _).mono ?_; rintro e w' ⟨rfl, rfl⟩) | (go_at_call 100; refine (signbit_F _ _).mono ?_; rintro e w' ⟨rfl, rfl⟩))
    go_ret
    exact ⟨ret_bool (by simp [hs]), rfl⟩
  · have h0 : (FloatKind.f64.format.order x.b 0 == some .eq) = false := by rw [ho]; simpa using h
    clear ho h
    go_enter Try.func60, Try.ntmps60
    go_wp2_with (first | (go_at_call 92; refine (isNaN_F _ _).mono ?_; rintro e w' ⟨rfl, rfl⟩) | (go_at_call 91; refine (isInf_F _ _).mono ?_; rintro e w' ⟨rfl, rfl⟩) | (go_at_call 100; refine (signbit_F _ _).mono ?_; rintro e w' ⟨rfl, rfl⟩))
    go_ret
    exact ⟨ret_bool rfl, rfl⟩

/-- what is no number -/
theorem right_no_w (x : Nat) (hx : x < 18446744073709551616) (h : rightB x = false) (w : World) :
    Calls Try.prog 60 #[.float .f64 x] w fun e w' => e = .returned (.bool false) ∧ w = w' := by
  obtain ⟨neg, r, hr, hxr, hc⟩ := bad_parts hx h
  have hr1 := read_parts x neg r hr hxr
  have hm : x % 9223372036854775808 = r := by cases neg <;> simp at hxr <;> omega
  rcases hc with ⟨h1, h2⟩ | h1 | h1
  · -- minus 0
    subst h1 h2
    obtain rfl : x = 9223372036854775808 := by simpa using hxr
    clear h hr hxr hr1 hm hx
    go_enter Try.func60, Try.ntmps60
    go_wp2_with (first | (go_at_call 92; refine (isNaN_w _ _).mono ?_; rintro e w' ⟨rfl, rfl⟩) | (go_at_call 91; refine (isInf_w _ _ (by omega)).mono ?_; rintro e w' ⟨rfl, rfl⟩) | (go_at_call 100; refine (signbit_w _ _ (by omega)).mono ?_; rintro e w' ⟨rfl, rfl⟩))
    go_ret
    exact ⟨ret_bool rfl, rfl⟩
  · -- infinite
    have hn : (Ieee.double.order x x != some .eq) = false := by
      unfold Ieee.Format.order
      rw [hr1, if_neg (by omega), if_pos h1]
      simp [Ieee.Datum.order]
    have hi : (Ieee.double.order (x % 9223372036854775808) 9218868437227405311 == some .gt) = true := by
      rw [hm, h1]; decide +kernel
    have hz : (FloatKind.f64.format.order x 0 == some .eq) = false := by
      show (Ieee.double.order x 0 == some .eq) = false
      unfold Ieee.Format.order
      rw [hr1, if_neg (by omega), if_pos h1]
      cases neg <;> decide +kernel
    clear h hr hxr hr1 hm h1
    go_enter Try.func60, Try.ntmps60
    go_wp2_with (first | (go_at_call 92; refine (isNaN_w _ _).mono ?_; rintro e w' ⟨rfl, rfl⟩) | (go_at_call 91; refine (isInf_w _ _ hx).mono ?_; rintro e w' ⟨rfl, rfl⟩) | (go_at_call 100; refine (signbit_w _ _ hx).mono ?_; rintro e w' ⟨rfl, rfl⟩))
    go_ret
    exact ⟨ret_bool rfl, rfl⟩
  · -- no number
    have hn : (Ieee.double.order x x != some .eq) = true := by
      unfold Ieee.Format.order
      rw [hr1, if_neg (by omega), if_neg (by omega)]
      simp [Ieee.Datum.order]
    have hz : (FloatKind.f64.format.order x 0 == some .eq) = false := by
      show (Ieee.double.order x 0 == some .eq) = false
      unfold Ieee.Format.order
      rw [hr1, if_neg (by omega), if_neg (by omega)]
      simp [Ieee.Datum.order]
    clear h hr hxr hr1 hm h1
    go_enter Try.func60, Try.ntmps60
    go_wp2_with (first | (go_at_call 92; refine (isNaN_w _ _).mono ?_; rintro e w' ⟨rfl, rfl⟩) | (go_at_call 91; refine (isInf_w _ _ hx).mono ?_; rintro e w' ⟨rfl, rfl⟩) | (go_at_call 100; refine (signbit_w _ _ hx).mono ?_; rintro e w' ⟨rfl, rfl⟩))
    go_ret
    exact ⟨ret_bool rfl, rfl⟩
end Go.Proofs.Ytiipaicbbmkagaa
