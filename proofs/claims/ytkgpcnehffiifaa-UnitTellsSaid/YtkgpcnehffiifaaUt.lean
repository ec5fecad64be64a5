/- The document's answers on draws: walks. -/
import Derived.Test.YtkgpcnehffiifaaRu
namespace Go.Proofs.Ytkgpcnehffiifaa
set_option linter.all false
open Go.RowKit Bu Rx

/-- what Go has without a text -/
def oFb : List SV → Option SV
  | [.f x] => some (.si .u64 x)
  | [.fl x] => some (.si .u64 x.b)
  | _ => none
def oFf : List SV → Option SV
  | [.si .u64 n] => some (.f n.toNat)
  | [.i .u64 n] => some (.f n.toNat)
  | _ => none
theorem fbE : ExtOne Try.prog 33 oFb := by
  intro args x h m vs hvs
  unfold oFb at h
  split at h
  · simp only [Option.some.injEq] at h; subst h
    simp only [dens, den, Option.bind_some, Option.map_some, Option.some.injEq] at hvs; subst hvs
    exact ⟨_, rfl, fun w => run_fbits _ w⟩
  · simp only [Option.some.injEq] at h; subst h
    simp only [dens, den, Option.bind_some, Option.map_some, Option.some.injEq] at hvs; subst hvs
    exact ⟨_, rfl, fun w => run_fbits _ w⟩
  · cases h
theorem ffE : ExtOne Try.prog 39 oFf := by
  intro args x h m vs hvs
  unfold oFf at h
  split at h
  · simp only [Option.some.injEq] at h; subst h
    simp only [dens, den, Option.bind_some, Option.map_some, Option.some.injEq] at hvs; subst hvs
    exact ⟨_, rfl, fun w => run_ffrom _ w⟩
  · simp only [Option.some.injEq] at h; subst h
    simp only [dens, den, Option.bind_some, Option.map_some, Option.some.injEq] at hvs; subst hvs
    exact ⟨_, rfl, fun w => run_ffrom _ w⟩
  · cases h
def EV : ExtF := lookE [(33, oFb), (39, oFf)]
theorem goodV : Rx.Good Try.prog EV := Rx.Good.of (by kernel_rfl) (by kernel_rfl) (.cons fbE (.cons ffE (.nil _)))

/-! ## math.IsNaN, IsInf, Signbit -/
def oNaN : List SV → Dec → Option (SV × Dec × Obs)
  | [.fl _], ds => some (.b false, ds, [])
  | [.f x], ds => (takeB ds (Ieee.double.order x x != some .eq)).map fun r => (.b r.1, r.2.1, r.2.2)
  | _, _ => none
def oInf : List SV → Dec → Option (SV × Dec × Obs)
  | [.fl _, .i .i64 0], ds => some (.b false, ds, [])
  | [.f x, .i .i64 0], ds => (takeB ds (Ieee.double.order (x % 9223372036854775808) 9218868437227405311 == some .gt)).map fun r => (.b r.1, r.2.1, (Nat.blt x 18446744073709551616, true) :: r.2.2)
  | _, _ => none
def oSign : List SV → Dec → Option (SV × Dec × Obs)
  | [.fl x], ds => (takeB ds (decide (x.k < 0))).map fun r => (.b r.1, r.2.1, r.2.2)
  | _, _ => none
theorem nanP : PlainOk Try.prog 23 oNaN := by
  intro args ds x ds' ob h ho
  unfold oNaN at h
  split at h
  · rename_i x
    simp only [Option.some.injEq, Prod.mk.injEq] at h; obtain ⟨rfl, _, _⟩ := h
    refine ⟨[.float .f64 x.b], .bool false, rfl, rfl, fun w => (isNaN_F x w).mono ?_⟩
    rintro e w' ⟨rfl, rfl⟩; exact ⟨rfl, Below.refl _ _⟩
  · rename_i x
    simp only [Option.map_eq_some_iff, Prod.mk.injEq] at h
    obtain ⟨⟨d, _, _⟩, h1, rfl, rfl, rfl⟩ := h
    refine ⟨[.float .f64 x], .bool d, rfl, rfl, fun w => (isNaN_w x w).mono ?_⟩
    rintro e w' ⟨rfl, rfl⟩; exact ⟨by rw [takeB_ok h1 ho], Below.refl _ _⟩
  · cases h
theorem infP : PlainOk Try.prog 24 oInf := by
  intro args ds x ds' ob h ho
  unfold oInf at h
  split at h
  · rename_i x
    simp only [Option.some.injEq, Prod.mk.injEq] at h; obtain ⟨rfl, _, _⟩ := h
    refine ⟨[.float .f64 x.b, .int .i64 0], .bool false, rfl, rfl, fun w => (isInf_F x w).mono ?_⟩
    rintro e w' ⟨rfl, rfl⟩; exact ⟨rfl, Below.refl _ _⟩
  · rename_i x
    simp only [Option.map_eq_some_iff, Prod.mk.injEq] at h
    obtain ⟨⟨d, _, o⟩, h1, rfl, rfl, rfl⟩ := h
    have hlt := Nat.blt_eq.mp (ho _ (List.mem_cons_self ..))
    have ho' : ObsOk o := fun p hp => ho p (List.mem_cons_of_mem _ hp)
    refine ⟨[.float .f64 x, .int .i64 0], .bool d, rfl, rfl, fun w => (isInf_w x w hlt).mono ?_⟩
    rintro e w' ⟨rfl, rfl⟩; exact ⟨by rw [takeB_ok h1 ho'], Below.refl _ _⟩
  · cases h
theorem signP : PlainOk Try.prog 25 oSign := by
  intro args ds x ds' ob h ho
  unfold oSign at h
  split at h
  · rename_i x
    simp only [Option.map_eq_some_iff, Prod.mk.injEq] at h
    obtain ⟨⟨d, _, _⟩, h1, rfl, rfl, rfl⟩ := h
    refine ⟨[.float .f64 x.b], .bool d, rfl, rfl, fun w => (signbit_F x w).mono ?_⟩
    rintro e w' ⟨rfl, rfl⟩; exact ⟨by rw [takeB_ok h1 ho], Below.refl _ _⟩
  · cases h
def OV0 : OracleF := lookO [(23, plainO oNaN), (24, plainO oInf), (25, plainO oSign)]
theorem oracleV0 : OracleOk Try.prog OV0 := .cons nanP.of (.cons infP.of (.cons signP.of (.nil _)))
theorem oracleN : OracleOk Try.prog (lookO []) := .nil _

/-! ## burnishref01.Right -/
theorem rRight_F (x : F) (w : World) : Calls Try.prog 28 #[.float .f64 x.b] w fun e w' => e = .returned (.bool true) ∧ Below w.heap.size w w' := by
  by_cases h : x.k = 0
  · refine calls_of_run goodV oracleV0 60 (g := 28) (args := [.fl x]) (ds := some [false, false]) (x := .b true) (M' := []) (ds' := some []) (ob := [(decide (x.k < 0), false), (!decide (x.k = (toF 0).k), false)]) (by kernel_rfl) (ObsOk.of_B ?_) rfl rfl w
    have e0 : (toF 0).k = 0 := zero_k'
    simp only [obsB, List.all_cons, List.all_nil, e0, decide_eq_true h, decide_eq_false (show ¬ x.k < 0 by omega), Bool.not_true, beq_self_eq_true, Bool.and_self]
  · refine calls_of_run goodV oracleV0 60 (g := 28) (args := [.fl x]) (ds := some [true]) (x := .b true) (M' := []) (ds' := some []) (ob := [(!decide (x.k = (toF 0).k), true)]) (by kernel_rfl) (ObsOk.of_B ?_) rfl rfl w
    have e0 : (toF 0).k = 0 := zero_k'
    simp only [obsB, List.all_cons, List.all_nil, e0, decide_eq_false h, Bool.not_false, beq_self_eq_true, Bool.and_self]
theorem rRight_no (x : Nat) (hx : x < 18446744073709551616) (h : rightB x = false) (w : World) : Calls Try.prog 28 #[.float .f64 x] w fun e w' => e = .returned (.bool false) ∧ Below w.heap.size w w' := by
  obtain ⟨neg, r, hr, hxr, hc⟩ := bad_parts hx h
  have hr1 := read_parts x neg r hr hxr
  have hm : x % 9223372036854775808 = r := by cases neg <;> simp at hxr <;> omega
  have hbl : Nat.blt x 18446744073709551616 = true := Nat.blt_eq.mpr hx
  rcases hc with ⟨h1, h2⟩ | h1 | h1
  · subst h1 h2
    obtain rfl : x = 9223372036854775808 := by simpa using hxr
    exact calls_of_out goodV oracleN 100 (g := 28) (args := [.f 9223372036854775808]) (ds := none) (x := .b false) (by kernel_rfl) rfl rfl w
  · have hn : (Ieee.double.order x x != some .eq) = false := by
      unfold Ieee.Format.order
      rw [hr1, if_neg (by omega), if_pos h1]
      simp [Ieee.Datum.order]
    have hi : (Ieee.double.order (x % 9223372036854775808) 9218868437227405311 == some .gt) = true := by
      rw [hm, h1]; decide +kernel
    refine calls_of_run goodV oracleV0 60 (g := 28) (args := [.f x]) (ds := some [false, true]) (x := .b false) (M' := []) (ds' := some []) (ob := [(Nat.blt x 18446744073709551616, true), (Ieee.double.order (x % 9223372036854775808) 9218868437227405311 == some .gt, true), (Ieee.double.order x x != some .eq, false)]) (by kernel_rfl) (ObsOk.of_B ?_) rfl rfl w
    simp only [obsB, List.all_cons, List.all_nil, hbl, hi, hn, beq_self_eq_true, Bool.and_self]
  · have hn : (Ieee.double.order x x != some .eq) = true := by
      unfold Ieee.Format.order
      rw [hr1, if_neg (by omega), if_neg (by omega)]
      simp [Ieee.Datum.order]
    refine calls_of_run goodV oracleV0 60 (g := 28) (args := [.f x]) (ds := some [true]) (x := .b false) (M' := []) (ds' := some []) (ob := [(Ieee.double.order x x != some .eq, true)]) (by kernel_rfl) (ObsOk.of_B ?_) rfl rfl w
    simp only [obsB, List.all_cons, List.all_nil, hn, beq_self_eq_true, Bool.and_self]
theorem rRightP : PlainOk Try.prog 28 oRight := by
  intro args ds x ds' ob h ho
  unfold oRight at h
  split at h
  · rename_i x
    simp only [Option.some.injEq, Prod.mk.injEq] at h; obtain ⟨rfl, _, _⟩ := h
    exact ⟨[.float .f64 x.b], .bool true, rfl, rfl, fun w => rRight_F x w⟩
  · rename_i v
    split at h
    · rename_i hb
      simp only [Option.some.injEq, Prod.mk.injEq] at h; obtain ⟨rfl, _, rfl⟩ := h
      obtain ⟨y, rfl⟩ := F_of_right (takeB_ok hb ho).symm
      exact ⟨[.float .f64 y.b], .bool true, rfl, rfl, fun w => rRight_F y w⟩
    · rename_i o hb
      simp only [Option.some.injEq, Prod.mk.injEq] at h; obtain ⟨rfl, _, rfl⟩ := h
      have hr := takeB_ok hb (ObsOk.right (a := [_]) ho)
      exact ⟨[.float .f64 v], .bool false, rfl, rfl, fun w => rRight_no v (Nat.blt_eq.mp (ho _ (List.mem_cons_self ..))) hr.symm w⟩
    · cases h
  · cases h
end Go.Proofs.Ytkgpcnehffiifaa
