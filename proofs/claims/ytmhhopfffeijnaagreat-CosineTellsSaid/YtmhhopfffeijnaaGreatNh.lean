/- Contracts of package math, as the document's answers use it; and of their first functions. -/
import Derived.Test.YtmhhopfffeijnaaGreatNf
import Derived.Test.YtmhhopfffeijnaaGreatNg
namespace Go.Proofs.YtmhhopfffeijnaaGreat
set_option linter.all false
open Go.RowKit Bu Rx

/-! ## a product and a sum; a root -/
theorem fma_red (x y z r : Nat) (h : Ieee.Format.fma FloatKind.f64.format x y z = some r) : Extern.MathFMA.fma #[.float .f64 x, .float .f64 y, .float .f64 z] = pure (.float .f64 r) := by
  delta Extern.MathFMA.fma
  generalize Ieee.Format.fma FloatKind.f64.format = g at *
  conv => lhs; whnf
  rw [h]
theorem sqt_red (x r : Nat) (h : Ieee.Format.sqrt FloatKind.f64.format x = some r) : Extern.MathSqrt.sqrt #[.float .f64 x] = pure (.float .f64 r) := by
  delta Extern.MathSqrt.sqrt
  generalize Ieee.Format.sqrt FloatKind.f64.format = g at *
  conv => lhs; whnf
  rw [h]
theorem fma_f (x y z r : Nat) (h : Ieee.double.fma x y z = some r) (w : World) : (callFunc 189 #[.float .f64 x, .float .f64 y, .float .f64 z]).run Tryz.prog w = .ok (.value (.float .f64 r)) w := by
  rw [run_callFunc_extern (e := Extern.MathFMA.fma) Tryz.func189 (by kernel_rfl) (by kernel_rfl) (by kernel_rfl) (by kernel_rfl)]
  rw [fma_red x y z r h]
  rfl
theorem fmaE : ExtOne Tryz.prog 189 oFMA := by
  intro args x ob h ho m vs hvs
  unfold oFMA at h
  split at h
  · split at h
    · rename_i a b c ha hb hc
      simp only [Option.some.injEq, Prod.mk.injEq] at h; obtain ⟨rfl, rfl⟩ := h
      have h1 := ho _ (List.mem_cons_self ..)
      obtain rfl := plains3 (fw_plain ha) (fw_plain hb) (fw_plain hc) hvs
      obtain ⟨r, hr⟩ := Option.isSome_iff_exists.1 h1
      rw [hr]
      exact ⟨.float .f64 r, rfl, fun w => fma_f a b c r hr w⟩
    · cases h
  · cases h
theorem sqt_f (x r : Nat) (h : Ieee.double.sqrt x = some r) (w : World) : (callFunc 211 #[.float .f64 x]).run Tryz.prog w = .ok (.value (.float .f64 r)) w := by
  rw [run_callFunc_extern (e := Extern.MathSqrt.sqrt) Tryz.func211 (by kernel_rfl) (by kernel_rfl) (by kernel_rfl) (by kernel_rfl)]
  rw [sqt_red x r h]
  rfl
theorem sqtE : ExtOne Tryz.prog 211 oSqt := by
  intro args x ob h ho m vs hvs
  unfold oSqt at h
  split at h
  · rename_i a
    simp only [Option.some.injEq, Prod.mk.injEq] at h; obtain ⟨rfl, rfl⟩ := h
    have h1 := ho _ (List.mem_cons_self ..)
    have h2 := ho _ (List.mem_cons_of_mem _ (List.mem_cons_self ..))
    simp only [dens, den, Option.bind_some, Option.map_some, Option.some.injEq] at hvs; subst hvs
    obtain ⟨r, hr⟩ := Option.isSome_iff_exists.1 h1
    rw [hr] at h2 ⊢
    have h2 : rightB r = true := h2
    refine ⟨.float .f64 r, ?_, fun w => sqt_f a.b r hr w⟩
    show some (Value.float .f64 (toF r).b) = _
    rw [toF_b h2]
  · cases h
def EH : ExtF := lookE [(103, oFb), (197, oFf), (189, oFMA), (211, oSqt)]
theorem goodH : Rx.Good Tryz.prog EH := Rx.Good.of (by kernel_rfl) (by kernel_rfl) (.cons fbE (.cons ffE (.cons fmaE (.cons sqtE (.nil _)))))
/-! ## Frexp, Ldexp, IsInf, Abs -/
theorem frK : PlainOk Tryz.prog 185 kFr := by
  intro args ds x ds' ob h ho
  unfold kFr at h
  split at h
  · rename_i x
    simp only [Option.some.injEq, Prod.mk.injEq] at h; obtain ⟨rfl, _, rfl⟩ := h
    have hx : x.k ≠ 0 := by have := obs1 ho; simpa using this
    refine ⟨[.float .f64 x.b], _, rfl, rfl, fun w => (Frexp_w x hx w).mono ?_⟩
    rintro e w' ⟨rfl, rfl⟩; exact ⟨rfl, Below.refl _ _⟩
  · cases h
theorem lgK : PlainOk Tryz.prog 105 (kLg ldW) := by
  intro args ds x ds' ob h ho
  unfold kLg at h
  split at h
  · rename_i x n
    split at h
    · rename_i k hk
      split at h
      · rename_i ds1 ob1 h1
        simp only [Option.some.injEq, Prod.mk.injEq] at h; obtain ⟨rfl, _, rfl⟩ := h
        have hb := of_decide_eq_true (ho _ (List.mem_cons_self ..))
        have hr := (takeB_ok h1 (fun p hp => ho p (List.mem_cons_of_mem _ hp))).symm
        refine ⟨[.float .f64 x.b, .int .i64 k], .float .f64 (ldW x k), plains_cons rfl (plains_cons (intS_plain hk) plains_nil), ?_, fun w => (Ldexp_w x k hb.1 hb.2 w).mono ?_⟩
        · show some (Value.float .f64 (toF (ldW x k)).b) = _
          rw [toF_b hr]
        · rintro e w' ⟨rfl, rfl⟩; exact ⟨rfl, Below.refl _ _⟩
      · rename_i ds1 ob1 h1
        simp only [Option.some.injEq, Prod.mk.injEq] at h; obtain ⟨rfl, _, rfl⟩ := h
        have hb := of_decide_eq_true (ho _ (List.mem_cons_self ..))
        refine ⟨[.float .f64 x.b, .int .i64 k], .float .f64 (ldW x k), plains_cons rfl (plains_cons (intS_plain hk) plains_nil), rfl, fun w => (Ldexp_w x k hb.1 hb.2 w).mono ?_⟩
        rintro e w' ⟨rfl, rfl⟩; exact ⟨rfl, Below.refl _ _⟩
      · cases h
    · cases h
  · rename_i x n
    split at h
    · rename_i k hk
      simp only [Option.some.injEq, Prod.mk.injEq] at h; obtain ⟨rfl, _, rfl⟩ := h
      have hx := Nat.eq_of_beq_eq_true (obs1 ho)
      subst hx
      refine ⟨[.float .f64 NEG0, .int .i64 k], .float .f64 NEG0, plains_cons rfl (plains_cons (intS_plain hk) plains_nil), rfl, fun w => (Ldexp_NEG0 k w).mono ?_⟩
      rintro e w' ⟨rfl, rfl⟩; exact ⟨rfl, Below.refl _ _⟩
    · cases h
  · cases h
/-! ## math.IsNaN, IsInf, Signbit -/
def oNaN : List SV → Dec → Option (SV × Dec × Obs)
  | [.fl _], ds => some (.b false, ds, [])
  | [.f x], ds => (takeB ds (Ieee.double.order x x != some .eq)).map fun r => (.b r.1, r.2.1, r.2.2)
  | _, _ => none
def oInf : List SV → Dec → Option (SV × Dec × Obs)
  | [.fl _, .i .i64 0], ds => some (.b false, ds, [])
  | [.f x, .i .i64 0], ds => (takeB ds (Ieee.double.order (x % 9223372036854775808) 9218868437227405311 == some .gt)).map fun r => (.b r.1, r.2.1, (Nat.blt x 18446744073709551616, true) :: r.2.2)
  | _, _ => none
def oSign : List SV → Dec → Option (SV × Dec × Obs)
  | [.fl x], ds => (takeB ds (decide (x.k < 0))).map fun r => (.b r.1, r.2.1, r.2.2)
  | _, _ => none
theorem nanP : PlainOk Tryz.prog 165 oNaN := by
  intro args ds x ds' ob h ho
  unfold oNaN at h
  split at h
  · rename_i x
    simp only [Option.some.injEq, Prod.mk.injEq] at h; obtain ⟨rfl, _, _⟩ := h
    refine ⟨[.float .f64 x.b], .bool false, rfl, rfl, fun w => (isNaN_F x w).mono ?_⟩
    rintro e w' ⟨rfl, rfl⟩; exact ⟨rfl, Below.refl _ _⟩
  · rename_i x
    simp only [Option.map_eq_some_iff, Prod.mk.injEq] at h
    obtain ⟨⟨d, _, _⟩, h1, rfl, rfl, rfl⟩ := h
    refine ⟨[.float .f64 x], .bool d, rfl, rfl, fun w => (isNaN_w x w).mono ?_⟩
    rintro e w' ⟨rfl, rfl⟩; exact ⟨by rw [takeB_ok h1 ho], Below.refl _ _⟩
  · cases h
theorem infP : PlainOk Tryz.prog 166 oInf := by
  intro args ds x ds' ob h ho
  unfold oInf at h
  split at h
  · rename_i x
    simp only [Option.some.injEq, Prod.mk.injEq] at h; obtain ⟨rfl, _, _⟩ := h
    refine ⟨[.float .f64 x.b, .int .i64 0], .bool false, rfl, rfl, fun w => (isInf_F x w).mono ?_⟩
    rintro e w' ⟨rfl, rfl⟩; exact ⟨rfl, Below.refl _ _⟩
  · rename_i x
    simp only [Option.map_eq_some_iff, Prod.mk.injEq] at h
    obtain ⟨⟨d, _, o⟩, h1, rfl, rfl, rfl⟩ := h
    have hlt := Nat.blt_eq.mp (ho _ (List.mem_cons_self ..))
    have ho' : ObsOk o := fun p hp => ho p (List.mem_cons_of_mem _ hp)
    refine ⟨[.float .f64 x, .int .i64 0], .bool d, rfl, rfl, fun w => (isInf_w x w hlt).mono ?_⟩
    rintro e w' ⟨rfl, rfl⟩; exact ⟨by rw [takeB_ok h1 ho'], Below.refl _ _⟩
  · cases h
theorem signP : PlainOk Tryz.prog 167 oSign := by
  intro args ds x ds' ob h ho
  unfold oSign at h
  split at h
  · rename_i x
    simp only [Option.map_eq_some_iff, Prod.mk.injEq] at h
    obtain ⟨⟨d, _, _⟩, h1, rfl, rfl, rfl⟩ := h
    refine ⟨[.float .f64 x.b], .bool d, rfl, rfl, fun w => (signbit_F x w).mono ?_⟩
    rintro e w' ⟨rfl, rfl⟩; exact ⟨by rw [takeB_ok h1 ho], Below.refl _ _⟩
  · cases h
def OV0 : OracleF := lookO [(165, plainO oNaN), (166, plainO oInf), (167, plainO oSign)]
theorem oracleV0 : OracleOk Tryz.prog OV0 := .cons nanP.of (.cons infP.of (.cons signP.of (.nil _)))
theorem oracleN : OracleOk Tryz.prog (lookO []) := .nil _

/-! ## burnishref01.Right -/
theorem rRight_F (x : F) (w : World) : Calls Tryz.prog 97 #[.float .f64 x.b] w fun e w' => e = .returned (.bool true) ∧ Below w.heap.size w w' := by
  by_cases h : x.k = 0
  · refine calls_of_run goodG oracleV0 60 (g := 97) (args := [.fl x]) (ds := some [false, false]) (x := .b true) (M' := []) (ds' := some []) (ob := [(decide (x.k < 0), false), (!decide (x.k = (toF 0).k), false)]) (by kernel_rfl) (ObsOk.of_B ?_) rfl rfl w
    have e0 : (toF 0).k = 0 := zero_k'
    simp only [obsB, List.all_cons, List.all_nil, e0, decide_eq_true h, decide_eq_false (show ¬ x.k < 0 by omega), Bool.not_true, beq_self_eq_true, Bool.and_self]
  · refine calls_of_run goodG oracleV0 60 (g := 97) (args := [.fl x]) (ds := some [true]) (x := .b true) (M' := []) (ds' := some []) (ob := [(!decide (x.k = (toF 0).k), true)]) (by kernel_rfl) (ObsOk.of_B ?_) rfl rfl w
    have e0 : (toF 0).k = 0 := zero_k'
    simp only [obsB, List.all_cons, List.all_nil, e0, decide_eq_false h, Bool.not_false, beq_self_eq_true, Bool.and_self]
theorem rRight_no (x : Nat) (hx : x < 18446744073709551616) (h : rightB x = false) (w : World) : Calls Tryz.prog 97 #[.float .f64 x] w fun e w' => e = .returned (.bool false) ∧ Below w.heap.size w w' := by
  obtain ⟨neg, r, hr, hxr, hc⟩ := bad_parts hx h
  have hr1 := read_parts x neg r hr hxr
  have hm : x % 9223372036854775808 = r := by cases neg <;> simp at hxr <;> omega
  have hbl : Nat.blt x 18446744073709551616 = true := Nat.blt_eq.mpr hx
  rcases hc with ⟨h1, h2⟩ | h1 | h1
  · subst h1 h2
    obtain rfl : x = 9223372036854775808 := by simpa using hxr
    exact calls_of_out goodG oracleN 100 (g := 97) (args := [.f 9223372036854775808]) (ds := none) (x := .b false) (by kernel_rfl) rfl rfl w
  · have hn : (Ieee.double.order x x != some .eq) = false := by
      unfold Ieee.Format.order
      rw [hr1, if_neg (by omega), if_pos h1]
      simp [Ieee.Datum.order]
    have hi : (Ieee.double.order (x % 9223372036854775808) 9218868437227405311 == some .gt) = true := by
      rw [hm, h1]; decide +kernel
    refine calls_of_run goodG oracleV0 60 (g := 97) (args := [.f x]) (ds := some [false, true]) (x := .b false) (M' := []) (ds' := some []) (ob := [(Nat.blt x 18446744073709551616, true), (Ieee.double.order (x % 9223372036854775808) 9218868437227405311 == some .gt, true), (Ieee.double.order x x != some .eq, false)]) (by kernel_rfl) (ObsOk.of_B ?_) rfl rfl w
    simp only [obsB, List.all_cons, List.all_nil, hbl, hi, hn, beq_self_eq_true, Bool.and_self]
  · have hn : (Ieee.double.order x x != some .eq) = true := by
      unfold Ieee.Format.order
      rw [hr1, if_neg (by omega), if_neg (by omega)]
      simp [Ieee.Datum.order]
    refine calls_of_run goodG oracleV0 60 (g := 97) (args := [.f x]) (ds := some [true]) (x := .b false) (M' := []) (ds' := some []) (ob := [(Ieee.double.order x x != some .eq, true)]) (by kernel_rfl) (ObsOk.of_B ?_) rfl rfl w
    simp only [obsB, List.all_cons, List.all_nil, hn, beq_self_eq_true, Bool.and_self]
theorem rRightP : PlainOk Tryz.prog 97 oRight := by
  intro args ds x ds' ob h ho
  unfold oRight at h
  split at h
  · rename_i x
    simp only [Option.some.injEq, Prod.mk.injEq] at h; obtain ⟨rfl, _, _⟩ := h
    exact ⟨[.float .f64 x.b], .bool true, rfl, rfl, fun w => rRight_F x w⟩
  · rename_i v
    split at h
    · rename_i hb
      simp only [Option.some.injEq, Prod.mk.injEq] at h; obtain ⟨rfl, _, rfl⟩ := h
      obtain ⟨y, rfl⟩ := F_of_right (takeB_ok hb ho).symm
      exact ⟨[.float .f64 y.b], .bool true, rfl, rfl, fun w => rRight_F y w⟩
    · rename_i o hb
      simp only [Option.some.injEq, Prod.mk.injEq] at h; obtain ⟨rfl, _, rfl⟩ := h
      have hr := takeB_ok hb (ObsOk.right (a := [_]) ho)
      exact ⟨[.float .f64 v], .bool false, rfl, rfl, fun w => rRight_no v (Nat.blt_eq.mp (ho _ (List.mem_cons_self ..))) hr.symm w⟩
    · cases h
  · cases h
end Go.Proofs.YtmhhopfffeijnaaGreat
