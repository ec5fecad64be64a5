/- The law UnitLeft, walked. -/
import Derived.Test.YtkgpcnehffiifaaUk
import Derived.Test.YtkgpcnehffiifaaUo
import Derived.Test.YtkgpcnehffiifaaRw
namespace Go.Proofs.Ytkgpcnehffiifaa
set_option linter.all false
open Go.RowKit Bu

theorem splitF_mono {u v : Nat} (h : u ≤ v) (x : F) : ((splitF v x).1 = true → (splitF u x).1 = true) ∧ ((splitF u x).1 = (splitF v x).1 → (splitF u x).2 ≤ (splitF v x).2) := by
  unfold splitF
  generalize splitB x = b
  by_cases c : x.k = 4607182418800017408
  · rw [if_pos (Or.inl c), if_pos (Or.inl c)]
    refine ⟨fun _ => rfl, fun _ => ?_⟩
    by_cases d : 0 < b
    · simp only [if_pos d]; exact Nat.div_le_div_right (Nat.mul_le_mul_right _ h)
    · simp only [if_neg d]; exact h
  · by_cases cu : u < b
    · by_cases cv : v < b
      · rw [if_pos (Or.inr cu), if_pos (Or.inr cv)]
        refine ⟨fun _ => rfl, fun _ => ?_⟩
        by_cases d : 0 < b
        · simp only [if_pos d]; exact Nat.div_le_div_right (Nat.mul_le_mul_right _ h)
        · simp only [if_neg d]; exact h
      · rw [if_pos (Or.inr cu), if_neg (show ¬ (x.k = 4607182418800017408 ∨ v < b) from fun e => e.elim c cv)]
        exact ⟨(fun e => rfl), (fun e => by cases e)⟩
    · have cv : ¬ v < b := by omega
      rw [if_neg (show ¬ (x.k = 4607182418800017408 ∨ u < b) from fun e => e.elim c cu), if_neg (show ¬ (x.k = 4607182418800017408 ∨ v < b) from fun e => e.elim c cv)]
      refine ⟨(fun e => by cases e), fun _ => ?_⟩
      by_cases d : 0 < b
      · simp only [if_pos d]; exact Nat.div_le_div_right (Nat.mul_le_mul_right _ (by omega))
      · simp only [if_neg d]; exact h

/-- the number one half -/
theorem half_b : (F.of 4602678819172646912).b = 4602678819172646912 ∧ splitB (F.of 4602678819172646912) = 9223372036854775808 := by decide +kernel
theorem splitF_half (u : Nat) (hu : u < 18446744073709551616) : splitF u (F.of 4602678819172646912) = (decide (u < 9223372036854775808), 2 * u % 18446744073709551616) := by
  unfold splitF
  rw [half_b.2, F.of_k (by rw [T_num]; decide)]
  by_cases c : u < 9223372036854775808
  · rw [if_pos (Or.inr c), if_pos (by decide)]
    simp only [decide_eq_true c]
    refine Prod.ext rfl ?_
    show u * 18446744073709551616 / 9223372036854775808 = 2 * u % 18446744073709551616
    omega
  · rw [if_neg (by omega), if_pos (by decide)]
    simp only [decide_eq_false c]
    refine Prod.ext rfl ?_
    show (u - 9223372036854775808) * 18446744073709551616 / (18446744073709551616 - 9223372036854775808) = 2 * u % 18446744073709551616
    omega

/-- both ways to halve, in plain variables -/
theorem half_pack (u : Nat) (hu : (u : Int) ≤ 18446744073709551615) : ∃ (c : Bool) (r : Nat),
    (∀ w, Calls Try.prog 13 #[.int .u64 u] w fun e w' => e = .returned (.tuple #[.bool c, .int .u64 r]) ∧ w = w') ∧
    (∀ w, Calls Try.prog 12 #[.int .u64 u, .float .f64 4602678819172646912] w fun e w' => e = .returned (.tuple #[.bool c, .int .u64 r, .int .i64 0]) ∧ Below w.heap.size w w') := by
  refine ⟨decide (u < 9223372036854775808), 2 * u % 18446744073709551616, fun w => half_w u hu w, fun w => ?_⟩
  have := split_w u hu (F.of 4602678819172646912) (k_of _ (by decide)).1 (k_of _ (by decide)).2 w
  rw [splitF_half u (by omega), half_b.1] at this
  exact this
/-- Split at two draws, in plain variables -/
theorem split_pack {u v : Nat} (h : u ≤ v) (hv : (v : Int) ≤ 18446744073709551615) (x : F) (h0 : 0 ≤ x.k) (h1 : x.k ≤ 4607182418800017408) : ∃ (a b : Bool) (p q : Nat),
    (∀ w, Calls Try.prog 12 #[.int .u64 u, .float .f64 x.b] w fun e w' => e = .returned (.tuple #[.bool a, .int .u64 p, .int .i64 0]) ∧ Below w.heap.size w w') ∧
    (∀ w, Calls Try.prog 12 #[.int .u64 v, .float .f64 x.b] w fun e w' => e = .returned (.tuple #[.bool b, .int .u64 q, .int .i64 0]) ∧ Below w.heap.size w w') ∧
    (b = true → a = true) ∧ (a = b → p ≤ q) := by
  have hm := splitF_mono h x
  exact ⟨_, _, _, _, fun w => split_w u (by omega) x h0 h1 w, fun w => split_w v hv x h0 h1 w, hm.1, hm.2⟩

theorem unitLeft_no (u v x : Nat) (hx : x < 18446744073709551616) (h : rightB x = false) (w : World) :
    Calls Try.prog 5 #[.float .f64 x, .int .u64 u, .int .u64 v] w fun e w' => e = .returned (.bool true) ∧ Below w.heap.size w w' := by
  have H := Lib.hid h
  have HX := Lib.hid hx
  clear h hx
  go_enter Try.func5, Try.ntmps5
  go_wp2_with (first | (go_at_call 11; refine (right_no_w _ HX.out H.out _).mono ?_; rintro e w1 ⟨rfl, rfl⟩) | (go_at_call 10; refine (awake_w _).mono ?_; rintro e wa ⟨rfl, hba⟩))
  go_ret
  exact ⟨ret_bool rfl, hba⟩

theorem unitLeft_bad (u v : Nat) (x : F) (h : x.k < 0 ∨ 4607182418800017408 < x.k) (w : World) :
    Calls Try.prog 5 #[.float .f64 x.b, .int .u64 u, .int .u64 v] w fun e w' => e = .returned (.bool true) ∧ Below w.heap.size w w' := by
  by_cases h0 : x.k < 0
  · have t1 : (FloatKind.f64.format.order x.b 0 == some .lt) = true := by rw [ford0_lt]; simp; omega
    clear h h0
    go_enter Try.func5, Try.ntmps5
    go_wp2_with (first | (go_at_call 11; refine (right_F_w _ _).mono ?_; rintro e w1 ⟨rfl, rfl⟩) | (go_at_call 10; refine (awake_w _).mono ?_; rintro e wa ⟨rfl, hba⟩))
    go_ret
    exact ⟨ret_bool rfl, hba⟩
  · have t1 : (FloatKind.f64.format.order x.b 0 == some .lt) = false := by rw [ford0_lt]; simp; omega
    have t2 : (FloatKind.f64.format.order x.b 4607182418800017408 == some .gt) = true := by rw [ford1_gt]; simp; omega
    clear h h0
    go_enter Try.func5, Try.ntmps5
    go_wp2_with (first | (go_at_call 11; refine (right_F_w _ _).mono ?_; rintro e w1 ⟨rfl, rfl⟩) | (go_at_call 10; refine (awake_w _).mono ?_; rintro e wa ⟨rfl, hba⟩))
    go_ret
    exact ⟨ret_bool rfl, hba⟩

attribute [local irreducible] F.b
set_option maxRecDepth 100000 in
set_option maxHeartbeats 2000000 in
theorem unitLeft_in (u v p q : Nat) (x : F) (hx0 : 0 ≤ x.k) (hx1 : x.k ≤ 4607182418800017408) (hu : (u : Int) ≤ 18446744073709551615) (hv : (v : Int) ≤ 18446744073709551615) (h1 : min (u : Int) (v : Int) = p) (h2 : max (u : Int) (v : Int) = q) (w : World) :
    Calls Try.prog 5 #[.float .f64 x.b, .int .u64 u, .int .u64 v] w fun e w' => e = .returned (.bool true) ∧ Below w.heap.size w w' := by
  have hq : (q : Int) ≤ 18446744073709551615 := by omega
  obtain ⟨c, r, hh, hs⟩ := half_pack p (by omega)
  obtain ⟨a, b, P, Q, sa, sb, hab, hpq⟩ := split_pack (show p ≤ q by omega) hq x hx0 hx1
  have H1 := Lib.hid h1
  have H2 := Lib.hid h2
  have HH := Lib.hid hh
  have HS := Lib.hid hs
  have SA := Lib.hid sa
  have SB := Lib.hid sb
  have t1 : (FloatKind.f64.format.order x.b 0 == some .lt) = false := by rw [ford0_lt]; simp; omega
  have t2 : (FloatKind.f64.format.order x.b 4607182418800017408 == some .gt) = false := by rw [ford1_gt]; simp; omega
  clear h1 h2 hh hs sa sb hx0 hx1 hu hv hq
  cases a <;> cases b
  case false.true => exact absurd (hab rfl) (by decide)
  · have f1 : (P : Int) ≤ Q := by have := hpq rfl; omega
    clear hab hpq
    go_enter Try.func5, Try.ntmps5
    go_wp2_with (first | (rw [H1.out, H2.out]) | (go_at_call 11; refine (right_F_w _ _).mono ?_; rintro e w1 ⟨rfl, rfl⟩) | (go_at_call 13; refine (HH.out _).mono ?_; rintro e w1 ⟨rfl, rfl⟩) | (go_at_call 12; first | ((with_reducible refine (SA.out _).mono ?_); rintro e wp ⟨rfl, hbp⟩) | ((with_reducible refine (SB.out _).mono ?_); rintro e wq ⟨rfl, hbq⟩) | ((with_reducible refine (HS.out _).mono ?_); rintro e wn ⟨rfl, hbn⟩)) | (go_at_call 10; refine (awake_w _).mono ?_; rintro e wa ⟨rfl, hba⟩))
    go_ret
    refine ⟨ret_bool rfl, ?_⟩
    have h1 := hbp.size
    have h2 := hbq.size
    have h3 := hbn.size
    exact ((hbp.trans (hbq.mono h1)).trans (hbn.mono (by omega))).trans (hba.mono (by omega))
  · clear hab hpq
    go_enter Try.func5, Try.ntmps5
    go_wp2_with (first | (rw [H1.out, H2.out]) | (go_at_call 11; refine (right_F_w _ _).mono ?_; rintro e w1 ⟨rfl, rfl⟩) | (go_at_call 13; refine (HH.out _).mono ?_; rintro e w1 ⟨rfl, rfl⟩) | (go_at_call 12; first | ((with_reducible refine (SA.out _).mono ?_); rintro e wp ⟨rfl, hbp⟩) | ((with_reducible refine (SB.out _).mono ?_); rintro e wq ⟨rfl, hbq⟩) | ((with_reducible refine (HS.out _).mono ?_); rintro e wn ⟨rfl, hbn⟩)) | (go_at_call 10; refine (awake_w _).mono ?_; rintro e wa ⟨rfl, hba⟩))
    go_ret
    refine ⟨ret_bool rfl, ?_⟩
    have h1 := hbp.size
    have h2 := hbq.size
    have h3 := hbn.size
    exact ((hbp.trans (hbq.mono h1)).trans (hbn.mono (by omega))).trans (hba.mono (by omega))
  · have f1 : (P : Int) ≤ Q := by have := hpq rfl; omega
    clear hab hpq
    go_enter Try.func5, Try.ntmps5
    go_wp2_with (first | (rw [H1.out, H2.out]) | (go_at_call 11; refine (right_F_w _ _).mono ?_; rintro e w1 ⟨rfl, rfl⟩) | (go_at_call 13; refine (HH.out _).mono ?_; rintro e w1 ⟨rfl, rfl⟩) | (go_at_call 12; first | ((with_reducible refine (SA.out _).mono ?_); rintro e wp ⟨rfl, hbp⟩) | ((with_reducible refine (SB.out _).mono ?_); rintro e wq ⟨rfl, hbq⟩) | ((with_reducible refine (HS.out _).mono ?_); rintro e wn ⟨rfl, hbn⟩)) | (go_at_call 10; refine (awake_w _).mono ?_; rintro e wa ⟨rfl, hba⟩))
    go_ret
    refine ⟨ret_bool rfl, ?_⟩
    have h1 := hbp.size
    have h2 := hbq.size
    have h3 := hbn.size
    exact ((hbp.trans (hbq.mono h1)).trans (hbn.mono (by omega))).trans (hba.mono (by omega))

theorem unitLeft_row (x u v : _) (w0 : (Lit.float .f64 x).wf = true) (w1 : (Lit.int .u64 u).wf = true) (w2 : (Lit.int .u64 v).wf = true) (w : World) :
    Calls Try.prog 5 #[.float .f64 x, .int .u64 u, .int .u64 v] w fun e w' => e = .returned (.bool true) ∧ Below w.heap.size w w' := by
  obtain ⟨u, rfl, hu⟩ := u64_nat w1
  obtain ⟨v, rfl, hv⟩ := u64_nat w2
  cases hr : rightB x with
  | false => exact unitLeft_no u v x (f64_in w0) hr w
  | true =>
    obtain ⟨y, rfl⟩ := F_of_right hr
    by_cases hb : y.k < 0 ∨ 4607182418800017408 < y.k
    · exact unitLeft_bad u v y hb w
    · exact unitLeft_in u v (min u v) (max u v) y (by omega) (by omega) hu hv (by omega) (by omega) w
end Go.Proofs.Ytkgpcnehffiifaa
