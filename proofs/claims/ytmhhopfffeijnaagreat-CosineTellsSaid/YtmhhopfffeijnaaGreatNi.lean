/- Neighbours, and the side of what is real, as the document tells them. -/
import Derived.Test.YtmhhopfffeijnaaGreatNh
namespace Go.Proofs.YtmhhopfffeijnaaGreat
set_option linter.all false
open Go.RowKit Bu Rx

theorem infP_F (x : F) (w : World) : Calls Tryz.prog 166 #[.float .f64 x.b, .int .i64 1] w fun e w' => e = .returned (.bool false) ∧ w = w' := by
  have hx := x.hk
  have hT := T_num
  have ho : (FloatKind.f64.format.order x.b 9218868437227405311 == some .gt) = false := by
    rw [show (9218868437227405311 : Nat) = F.max.b from by decide, ford_gt]
    have : F.max.k = (T : Int) - 1 := rfl
    exact decide_eq_false (by omega)
  go_enter Tryz.func166, Tryz.ntmps166
  go_wp2
  go_ret
  exact ⟨rfl, rfl⟩
theorem infN_F (x : F) (w : World) : Calls Tryz.prog 166 #[.float .f64 x.b, .int .i64 (-1)] w fun e w' => e = .returned (.bool false) ∧ w = w' := by
  have hx := x.hk
  have hT := T_num
  have ho : (FloatKind.f64.format.order (Op.negFloat .f64 x.b) 9218868437227405311 == some .gt) = false := by
    by_cases h : x.k = 0
    · rw [show x = F.zero from F.ext' h]; decide
    · rw [negFloat_F x h, show (9218868437227405311 : Nat) = F.max.b from by decide, ford_gt]
      have : F.max.k = (T : Int) - 1 := rfl
      have := x.neg.hk
      exact decide_eq_false (by omega)
  have hn : ∀ w, (Op.unary .neg (.float .f64 x.b)).run Tryz.prog w = .ok (.float .f64 (Op.negFloat .f64 x.b)) w := fun w => rfl
  generalize Op.negFloat .f64 x.b = y at *
  go_enter Tryz.func166, Tryz.ntmps166
  go_wp2
  go_ret
  exact ⟨rfl, rfl⟩
theorem inf_word {w : Nat} (h : badB w = true) : (Ieee.double.order (w % 9223372036854775808) 9218868437227405311 == some .gt) = (Nat.beq w INF || Nat.beq w NINF) := by
  rcases badB_or h with rfl | rfl | rfl <;> decide +kernel
theorem infK : PlainOk Tryz.prog 166 kInf := by
  intro args ds x ds' ob h ho
  unfold kInf at h
  split at h
  · rename_i x n
    simp only [Option.some.injEq, Prod.mk.injEq] at h; obtain ⟨rfl, _, rfl⟩ := h
    have hn := of_decide_eq_true (obs1 ho)
    refine ⟨[.float .f64 x.b, .int .i64 n], .bool false, rfl, rfl, fun w => ?_⟩
    rcases hn with rfl | rfl | rfl
    · refine (isInf_F x w).mono ?_
      rintro e w' ⟨rfl, rfl⟩; exact ⟨rfl, Below.refl _ _⟩
    · refine (infP_F x w).mono ?_
      rintro e w' ⟨rfl, rfl⟩; exact ⟨rfl, Below.refl _ _⟩
    · refine (infN_F x w).mono ?_
      rintro e w' ⟨rfl, rfl⟩; exact ⟨rfl, Below.refl _ _⟩
  · rename_i v
    split at h
    · rename_i d ds1 ob1 h1
      simp only [Option.some.injEq, Prod.mk.injEq] at h; obtain ⟨rfl, _, rfl⟩ := h
      have hb := ho _ (List.mem_cons_self ..)
      have hd := takeB_ok h1 (fun p hp => ho p (List.mem_cons_of_mem _ hp))
      have hlt : v < 18446744073709551616 := by rcases badB_or hb with rfl | rfl | rfl <;> decide
      refine ⟨[.float .f64 v, .int .i64 0], .bool d, rfl, rfl, fun w => (isInf_w v w hlt).mono ?_⟩
      rintro e w' ⟨rfl, rfl⟩
      exact ⟨by rw [inf_word hb, hd], Below.refl _ _⟩
    · cases h
  · cases h
theorem absK : PlainOk Tryz.prog 136 kAbsG := by
  intro args ds x ds' ob h ho
  unfold kAbsG at h
  split at h
  · rename_i x
    simp only [Option.some.injEq, Prod.mk.injEq] at h; obtain ⟨rfl, _, _⟩ := h
    refine ⟨[.float .f64 x.b], _, rfl, rfl, fun w => (abs_F x w).mono ?_⟩
    rintro e w' ⟨rfl, rfl⟩; exact ⟨rfl, Below.refl _ _⟩
  · rename_i v
    simp only [Option.some.injEq, Prod.mk.injEq] at h; obtain ⟨rfl, _, rfl⟩ := h
    have hv := Nat.eq_of_beq_eq_true (obs1 ho)
    subst hv
    refine ⟨[.float .f64 NEG0], _, rfl, rfl, fun w => (abs_w NEG0 w (by decide)).mono ?_⟩
    rintro e w' ⟨rfl, rfl⟩; exact ⟨rfl, Below.refl _ _⟩
  · cases h
/-! ## Nextafter -/
theorem inf_order' (x : F) : (Ieee.double.order x.b INF == some .eq) = false ∧ (Ieee.double.order INF x.b == some .gt) = true ∧ (Ieee.double.order x.b NINF == some .eq) = false ∧ (Ieee.double.order NINF x.b == some .gt) = false := by
  have h1 := read_F x
  have h2 := read_parts INF false 9218868437227405312 (by decide) rfl
  have h3 := read_parts NINF true 9218868437227405312 (by decide) rfl
  rw [if_neg (by decide), if_pos (by decide)] at h2 h3
  unfold Ieee.Format.order
  rw [h1, h2, h3]
  exact ⟨rfl, rfl, rfl, rfl⟩
def naU (x : F) : Nat := if x.k + 1 < (T : Int) then (if x.k = -1 then NEG0 else (F.of (x.k + 1)).b) else INF
def naD (x : F) : Nat := if -(T : Int) < x.k - 1 then (F.of (x.k - 1)).b else NINF
theorem naU_pos (x : F) (h : 0 ≤ x.k) : (IntKind.u64.wrap ((x.b : Int) + 1)).toNat = naU x := by
  have e := T_num
  have hx := x.hk
  have hb : x.b = x.k.toNat := by unfold F.b; rw [if_pos h]
  rw [IntKind.wrap_u64, hb]
  unfold naU
  by_cases c : x.k + 1 < (T : Int)
  · rw [if_pos c, if_neg (by omega)]
    unfold F.b
    rw [F.of_k (by omega), if_pos (by omega)]
    omega
  · rw [if_neg c]
    have : INF = 9218868437227405312 := rfl
    omega
theorem naU_neg (x : F) (h : x.k < 0) : (IntKind.u64.wrap ((x.b : Int) - 1)).toNat = naU x := by
  have e := T_num
  have hx := x.hk
  have hb : x.b = 9223372036854775808 + (-x.k).toNat := by unfold F.b; rw [if_neg (by omega)]
  rw [IntKind.wrap_u64, hb]
  unfold naU
  rw [if_pos (by omega)]
  by_cases c : x.k = -1
  · rw [if_pos c]
    have : NEG0 = 9223372036854775808 := rfl
    omega
  · rw [if_neg c]
    unfold F.b
    rw [F.of_k (by omega), if_neg (by omega)]
    omega
theorem naD_pos (x : F) (h : 0 < x.k) : (IntKind.u64.wrap ((x.b : Int) - 1)).toNat = naD x := by
  have e := T_num
  have hx := x.hk
  have hb : x.b = x.k.toNat := by unfold F.b; rw [if_pos (by omega)]
  rw [IntKind.wrap_u64, hb]
  unfold naD
  rw [if_pos (by omega)]
  unfold F.b
  rw [F.of_k (by omega), if_pos (by omega)]
  omega
theorem naD_neg (x : F) (h : x.k < 0) : (IntKind.u64.wrap ((x.b : Int) + 1)).toNat = naD x := by
  have e := T_num
  have hx := x.hk
  have hb : x.b = 9223372036854775808 + (-x.k).toNat := by unfold F.b; rw [if_neg (by omega)]
  rw [IntKind.wrap_u64, hb]
  unfold naD
  by_cases c : -(T : Int) < x.k - 1
  · rw [if_pos c]
    unfold F.b
    rw [F.of_k (by omega), if_neg (by omega)]
    omega
  · rw [if_neg c]
    have : NINF = 18442240474082181120 := rfl
    omega
theorem ret_w {a b : Nat} (h : a = b) : Ending.returned (.float .f64 a) = .returned (.float .f64 b) := by rw [h]
theorem nextafter_U (x : F) (w : World) : Calls Tryz.prog 182 #[.float .f64 x.b, .float .f64 INF] w fun e w' => e = .returned (.float .f64 (naU x)) ∧ Below w.heap.size w w' := by
  obtain ⟨o1, o2, _, _⟩ := inf_order' x
  have e0 := zero_k'
  have hnn : (Ieee.double.order INF INF != some .eq) = false := by decide +kernel
  by_cases hk : x.k = 0
  · have : naU x = 1 := by rw [show x = F.zero from F.ext' hk]; decide +kernel
    rw [this]
    refine calls_of_run goodH oracleV0 80 (g := 182) (args := [.fl x, .f INF]) (ds := some [false, false, true]) (x := .f 1) (M' := []) (ds' := some [])
      (ob := [(decide (x.k = (toF 0).k), true), (Ieee.double.order x.b INF == some .eq, false), (Ieee.double.order INF INF != some .eq, false)]) (by kernel_rfl) (ObsOk.of_B ?_) rfl rfl w
    simp only [obsB, List.all_cons, List.all_nil, e0, decide_eq_true hk, o1, hnn, beq_self_eq_true, Bool.and_self]
  · by_cases hp : 0 < x.k
    · rw [← naU_pos x (by omega)]
      refine calls_of_run goodH oracleV0 80 (g := 182) (args := [.fl x, .f INF]) (ds := some [false, false, false, true, true]) (x := .f (IntKind.u64.wrap ((x.b : Int) + 1)).toNat) (M' := []) (ds' := some [])
        (ob := [(decide ((toF 0).k < x.k), true), (Ieee.double.order INF x.b == some .gt, true), (decide (x.k = (toF 0).k), false), (Ieee.double.order x.b INF == some .eq, false), (Ieee.double.order INF INF != some .eq, false)]) (by kernel_rfl) (ObsOk.of_B ?_) rfl rfl w
      simp only [obsB, List.all_cons, List.all_nil, e0, decide_eq_false hk, decide_eq_true hp, o1, o2, hnn, beq_self_eq_true, Bool.and_self]
    · rw [← naU_neg x (by omega)]
      refine calls_of_run goodH oracleV0 80 (g := 182) (args := [.fl x, .f INF]) (ds := some [false, false, false, true, false]) (x := .f (IntKind.u64.wrap ((x.b : Int) - 1)).toNat) (M' := []) (ds' := some [])
        (ob := [(decide ((toF 0).k < x.k), false), (Ieee.double.order INF x.b == some .gt, true), (decide (x.k = (toF 0).k), false), (Ieee.double.order x.b INF == some .eq, false), (Ieee.double.order INF INF != some .eq, false)]) (by kernel_rfl) (ObsOk.of_B ?_) rfl rfl w
      simp only [obsB, List.all_cons, List.all_nil, e0, decide_eq_false hk, decide_eq_false hp, o1, o2, hnn, beq_self_eq_true, Bool.and_self]
theorem nextafter_D (x : F) (w : World) : Calls Tryz.prog 182 #[.float .f64 x.b, .float .f64 NINF] w fun e w' => e = .returned (.float .f64 (naD x)) ∧ Below w.heap.size w w' := by
  obtain ⟨_, _, o1, o2⟩ := inf_order' x
  have e0 := zero_k'
  have hnn : (Ieee.double.order NINF NINF != some .eq) = false := by decide +kernel
  by_cases hk : x.k = 0
  · have : naD x = 9223372036854775809 := by rw [show x = F.zero from F.ext' hk]; decide +kernel
    rw [this]
    refine calls_of_run goodH oracleV0 80 (g := 182) (args := [.fl x, .f NINF]) (ds := some [false, false, true]) (x := .f 9223372036854775809) (M' := []) (ds' := some [])
      (ob := [(decide (x.k = (toF 0).k), true), (Ieee.double.order x.b NINF == some .eq, false), (Ieee.double.order NINF NINF != some .eq, false)]) (by kernel_rfl) (ObsOk.of_B ?_) rfl rfl w
    simp only [obsB, List.all_cons, List.all_nil, e0, decide_eq_true hk, o1, hnn, beq_self_eq_true, Bool.and_self]
  · by_cases hp : 0 < x.k
    · rw [← naD_pos x hp]
      refine calls_of_run goodH oracleV0 80 (g := 182) (args := [.fl x, .f NINF]) (ds := some [false, false, false, false, true]) (x := .f (IntKind.u64.wrap ((x.b : Int) - 1)).toNat) (M' := []) (ds' := some [])
        (ob := [(decide ((toF 0).k < x.k), true), (Ieee.double.order NINF x.b == some .gt, false), (decide (x.k = (toF 0).k), false), (Ieee.double.order x.b NINF == some .eq, false), (Ieee.double.order NINF NINF != some .eq, false)]) (by kernel_rfl) (ObsOk.of_B ?_) rfl rfl w
      simp only [obsB, List.all_cons, List.all_nil, e0, decide_eq_false hk, decide_eq_true hp, o1, o2, hnn, beq_self_eq_true, Bool.and_self]
    · rw [← naD_neg x (by omega)]
      refine calls_of_run goodH oracleV0 80 (g := 182) (args := [.fl x, .f NINF]) (ds := some [false, false, false, false, false]) (x := .f (IntKind.u64.wrap ((x.b : Int) + 1)).toNat) (M' := []) (ds' := some [])
        (ob := [(decide ((toF 0).k < x.k), false), (Ieee.double.order NINF x.b == some .gt, false), (decide (x.k = (toF 0).k), false), (Ieee.double.order x.b NINF == some .eq, false), (Ieee.double.order NINF NINF != some .eq, false)]) (by kernel_rfl) (ObsOk.of_B ?_) rfl rfl w
      simp only [obsB, List.all_cons, List.all_nil, e0, decide_eq_false hk, decide_eq_false hp, o1, o2, hnn, beq_self_eq_true, Bool.and_self]
theorem ob_two {a b : Obs} (h : ObsOk (a ++ b)) : ObsOk a ∧ ObsOk b := ⟨h.left, h.right⟩
theorem naK : PlainOk Tryz.prog 182 kNa := by
  intro args ds x ds' ob h ho
  unfold kNa at h
  split at h
  · rename_i x y
    split at h
    · rename_i hy
      have := Nat.eq_of_beq_eq_true hy
      subst this
      have key := nextafter_U x
      unfold naU at key
      split at h
      · rename_i ds1 ob1 h1
        split at h
        · rename_i ds2 ob2 h2
          simp only [Option.some.injEq, Prod.mk.injEq] at h; obtain ⟨rfl, _, rfl⟩ := h
          obtain ⟨ho2, ho1⟩ := ob_two ho
          have k1 := of_decide_eq_true (takeB_ok h1 ho1).symm
          have k2 := of_decide_eq_true (takeB_ok h2 ho2).symm
          rw [if_pos k1, if_pos k2] at key
          exact ⟨[.float .f64 x.b, .float .f64 INF], _, rfl, rfl, key⟩
        · rename_i ds2 ob2 h2
          simp only [Option.some.injEq, Prod.mk.injEq] at h; obtain ⟨rfl, _, rfl⟩ := h
          obtain ⟨ho2, ho1⟩ := ob_two ho
          have k1 := of_decide_eq_true (takeB_ok h1 ho1).symm
          have k2 := of_decide_eq_false (takeB_ok h2 ho2).symm
          rw [if_pos k1, if_neg k2] at key
          exact ⟨[.float .f64 x.b, .float .f64 INF], _, rfl, rfl, key⟩
        · cases h
      · rename_i ds1 ob1 h1
        simp only [Option.some.injEq, Prod.mk.injEq] at h; obtain ⟨rfl, _, rfl⟩ := h
        have k1 := of_decide_eq_false (takeB_ok h1 ho).symm
        rw [if_neg k1] at key
        exact ⟨[.float .f64 x.b, .float .f64 INF], _, rfl, rfl, key⟩
      · cases h
    · split at h
      · rename_i hy
        have := Nat.eq_of_beq_eq_true hy
        subst this
        have key := nextafter_D x
        unfold naD at key
        split at h
        · rename_i ds1 ob1 h1
          simp only [Option.some.injEq, Prod.mk.injEq] at h; obtain ⟨rfl, _, rfl⟩ := h
          have k1 := of_decide_eq_true (takeB_ok h1 ho).symm
          rw [if_pos k1] at key
          exact ⟨[.float .f64 x.b, .float .f64 NINF], _, rfl, rfl, key⟩
        · rename_i ds1 ob1 h1
          simp only [Option.some.injEq, Prod.mk.injEq] at h; obtain ⟨rfl, _, rfl⟩ := h
          have k1 := of_decide_eq_false (takeB_ok h1 ho).symm
          rw [if_neg k1] at key
          exact ⟨[.float .f64 x.b, .float .f64 NINF], _, rfl, rfl, key⟩
        · cases h
      · cases h
  · cases h
end Go.Proofs.YtmhhopfffeijnaaGreat
