/- The document's answers on draws: what they come to. -/
import Derived.Test.YtmhhopfffeijnaaGreatUt3
namespace Go.Proofs.YtmhhopfffeijnaaGreat
set_option linter.all false
open Go.RowKit Bu Rx

theorem dy_mul (m c : Nat) (hm : m ≤ 2 * Bu.P) (h0 : m ≠ 0) (hc : c ≤ 11) : Ieee.double.mul (F.dy m 0).b (F.dy (2 ^ c) 0).b = some (F.dy m c).b := by
  have hb := blen_2P hm
  have hc2 : 2 ^ c ≤ 2 * Bu.P := Nat.le_trans (Nat.pow_le_pow_right (by omega) hc) (by decide)
  have e1 := nat_z hm
  have e2 := nat_z hc2
  have e3 := dy_z hm (show -1074 ≤ (c : Int) by omega) (by omega)
  refine mul_exact (dy_pos hm h0 (by omega) (by omega)) ?_
  rw [e1, e2, e3, show ((c : Int) + 1074).toNat = c + 1074 from by omega, Nat.pow_add, ← S_eq]
  simp only [Int.natCast_mul]
  generalize ((2 ^ c : Nat) : Int) = p
  generalize (S : Int) = s
  ac_rfl

theorem rgt_F (x : F) : (rightB x.b, true).1 = true := right_F x
structure TopF (n : Nat) : Prop where
  lt : n < 18446744073709551616
theorem top_w (n : Nat) (hn : (n : Int) ≤ 18446744073709551615) (w : World) :
    Calls Tryz.prog 119 #[.int .u64 n] w fun e w' => e = .returned (.tuple #[.float .f64 (F.dy (n / 2 ^ unitCut n) (unitCut n)).b, .bool (decide (n % 2 ^ unitCut n ≠ 0))]) ∧ Below w.heap.size w w' := by
  obtain ⟨g1, g2, g3⟩ := unit_m n (by omega)
  have hP : Bu.P = 4503599627370496 := rfl
  have wr : ∀ x : Nat, x ≤ n → IntKind.u64.wrap (x : Int) = x := fun x h1 => by rw [IntKind.wrap_u64]; omega
  have td : ∀ j : Nat, (n : Int).tdiv ((2 ^ j : Nat) : Int) = ((n / 2 ^ j : Nat) : Int) := fun j => by
    rw [Int.tdiv_eq_ediv_of_nonneg (by omega)]; exact (Int.natCast_ediv _ _).symm
  have hge : ∀ j, j < unitCut n → (gq n j true).1 = true := by
    intro j hj
    have h1 : 9007199254740992 ≤ n / 2 ^ j := by
      have hne : n ≠ 0 := by
        intro e; subst e; unfold unitCut at hj; simp [blen] at hj
      have hb : 2 ^ (blen n - 1) ≤ n := by
        unfold blen; rw [if_neg hne, Nat.add_sub_cancel]; exact Nat.log2_self_le hne
      rw [Nat.le_div_iff_mul_le (Nat.two_pow_pos _), show (9007199254740992 : Nat) = 2 ^ 53 from rfl, ← Nat.pow_add]
      exact Nat.le_trans (Nat.pow_le_pow_right (by omega) (by unfold unitCut at hj; omega)) hb
    unfold gq
    rw [td j, wr _ (Nat.div_le_self _ _)]
    exact decide_eq_true (by omega)
  have hlt : (gq n (unitCut n) false).1 = false := by
    unfold gq
    rw [td _, wr _ (Nat.div_le_self _ _)]
    exact decide_eq_false (by omega)
  have hrem : ∀ d, decide (n % 2 ^ unitCut n ≠ 0) = d → (rq n (unitCut n) d).1 = d := by
    rintro d rfl
    unfold rq
    simp only []
    rw [Int.tmod_eq_emod_of_nonneg (by omega), ← Int.natCast_emod, Bool.eq_iff_iff]
    simp only [bne_iff_ne, ne_eq, decide_eq_true_eq]
    omega
  have hmul : mulT n (unitCut n) = some (F.dy (n / 2 ^ unitCut n) (unitCut n)).b := by
    by_cases h0 : n = 0
    · subst h0; decide +kernel
    · have hm0 : n / 2 ^ unitCut n ≠ 0 := by
        rcases g3 with h | h
        · rw [h]; simpa using h0
        · omega
      unfold mulT
      rw [td _, wr _ (Nat.div_le_self _ _)]
      have e1 : FloatKind.f64.nearest ((n / 2 ^ unitCut n : Nat) : Int) = (F.dy (n / 2 ^ unitCut n) 0).b := floatOfInt_dy _ (by omega)
      have e2 : FloatKind.f64.nearest ((2 ^ unitCut n : Nat) : Int) = (F.dy (2 ^ unitCut n) 0).b := floatOfInt_dy _ (by
        have : 2 ^ unitCut n ≤ 2 ^ 11 := Nat.pow_le_pow_right (by omega) g1
        have e : (2 : Nat) ^ 11 = 2048 := by decide
        omega)
      rw [e1, e2, toF_F, toF_F]
      exact dy_mul _ _ (by omega) hm0 g1
  have hnr : (trn n (unitCut n)).1 = true := by
    unfold trn
    rw [td _, wr _ (Nat.div_le_self _ _), show FloatKind.f64.nearest ((n / 2 ^ unitCut n : Nat) : Int) = (F.dy (n / 2 ^ unitCut n) 0).b from floatOfInt_dy _ (by omega)]
    exact rgt_F _
  have hpr : (prn n (unitCut n)).1 = true := by
    unfold prn
    rw [hmul, Option.getD_some]
    exact rgt_F _
  have := topRun n (unitCut n) (decide (n % 2 ^ unitCut n ≠ 0)) g1 (gqs_ok _ hge) hlt (by rw [hmul]; rfl) hpr hnr (hrem _ rfl) w
  rw [hmul, Option.getD_some, toF_F] at this
  exact this

/-! ## math.Nextafter, up, from 0 on -/
theorem inf_order (x : F) : (Ieee.double.order x.b 9218868437227405312 == some .eq) = false ∧ (Ieee.double.order 9218868437227405312 x.b == some .gt) = true := by
  have h1 := read_F x
  have h2 := read_parts 9218868437227405312 false 9218868437227405312 (by decide) rfl
  rw [if_neg (by decide), if_pos (by decide)] at h2
  unfold Ieee.Format.order
  rw [h1, h2]
  constructor <;> rfl
theorem up_b (x : F) (h0 : 0 ≤ x.k) (h1 : x.k + 1 < (T : Int)) : (IntKind.u64.wrap ((x.b : Int) + 1)).toNat = (F.of (x.k + 1)).b := by
  have e := T_num
  rw [IntKind.wrap_u64]
  unfold F.b
  rw [F.of_k (by omega), if_pos h0, if_pos (by omega)]
  omega
theorem nextafter_w (x : F) (h0 : 0 ≤ x.k) (h1 : x.k + 1 < (T : Int)) (w : World) :
    Calls Tryz.prog 182 #[.float .f64 x.b, .float .f64 9218868437227405312] w fun e w' => e = .returned (.float .f64 (F.of (x.k + 1)).b) ∧ Below w.heap.size w w' := by
  obtain ⟨o1, o2⟩ := inf_order x
  have e0 := zero_k'
  have hnn : (Ieee.double.order 9218868437227405312 9218868437227405312 != some .eq) = false := by decide +kernel
  by_cases hk : x.k = 0
  · have : (F.of (x.k + 1)).b = 1 := by rw [hk]; decide +kernel
    rw [this]
    refine calls_of_run goodG oracleV0 80 (g := 182) (args := [.fl x, .f 9218868437227405312]) (ds := some [false, false, true]) (x := .f 1) (M' := []) (ds' := some [])
      (ob := [(decide (x.k = (toF 0).k), true), (Ieee.double.order x.b 9218868437227405312 == some .eq, false), (Ieee.double.order 9218868437227405312 9218868437227405312 != some .eq, false)]) (by kernel_rfl) (ObsOk.of_B ?_) rfl rfl w
    simp only [obsB, List.all_cons, List.all_nil, e0, decide_eq_true hk, o1, hnn, beq_self_eq_true, Bool.and_self]
  · rw [← up_b x h0 h1]
    refine calls_of_run goodG oracleV0 80 (g := 182) (args := [.fl x, .f 9218868437227405312]) (ds := some [false, false, false, true, true]) (x := .f (IntKind.u64.wrap ((x.b : Int) + 1)).toNat) (M' := []) (ds' := some [])
      (ob := [(decide ((toF 0).k < x.k), true), (Ieee.double.order 9218868437227405312 x.b == some .gt, true), (decide (x.k = (toF 0).k), false), (Ieee.double.order x.b 9218868437227405312 == some .eq, false), (Ieee.double.order 9218868437227405312 9218868437227405312 != some .eq, false)]) (by kernel_rfl) (ObsOk.of_B ?_) rfl rfl w
    simp only [obsB, List.all_cons, List.all_nil, e0, decide_eq_false hk, decide_eq_true (show 0 < x.k by omega), o1, o2, hnn, beq_self_eq_true, Bool.and_self]
end Go.Proofs.YtmhhopfffeijnaaGreat
