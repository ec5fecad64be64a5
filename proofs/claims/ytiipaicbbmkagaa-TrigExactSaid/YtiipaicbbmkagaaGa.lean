/- Package dir by the reckoner: what is known. -/
import Derived.Test.YtiipaicbbmkagaaRo
import Derived.Test.YtiipaicbbmkagaaGd
import Derived.Test.YtiipaicbbmkagaaFx
import Derived.Shelf.Spec.BitsCarry
import Derived.WalkKit
namespace Go.Proofs.Ytiipaicbbmkagaa
set_option linter.all false
open Go.RowKit Bu Rx

theorem fbE : ExtOne Try.prog 94 oFb := by
  intro args x ob h _ m vs hvs
  unfold oFb at h
  split at h
  · simp only [Option.some.injEq, Prod.mk.injEq] at h; obtain ⟨rfl, _⟩ := h
    simp only [dens, den, Option.bind_some, Option.map_some, Option.some.injEq] at hvs; subst hvs
    exact ⟨_, rfl, fun w => run_fbits _ w⟩
  · simp only [Option.some.injEq, Prod.mk.injEq] at h; obtain ⟨rfl, _⟩ := h
    simp only [dens, den, Option.bind_some, Option.map_some, Option.some.injEq] at hvs; subst hvs
    exact ⟨_, rfl, fun w => run_fbits _ w⟩
  · cases h
theorem ffE : ExtOne Try.prog 97 oFf := by
  intro args x ob h _ m vs hvs
  unfold oFf at h
  split at h
  · simp only [Option.some.injEq, Prod.mk.injEq] at h; obtain ⟨rfl, _⟩ := h
    simp only [dens, den, Option.bind_some, Option.map_some, Option.some.injEq] at hvs; subst hvs
    exact ⟨_, rfl, fun w => run_ffrom _ w⟩
  · simp only [Option.some.injEq, Prod.mk.injEq] at h; obtain ⟨rfl, _⟩ := h
    simp only [dens, den, Option.bind_some, Option.map_some, Option.some.injEq] at hvs; subst hvs
    exact ⟨_, rfl, fun w => run_ffrom _ w⟩
  · cases h
/-! ## sums and differences of two words -/
theorem add64_f (x y c : Nat) (hc : c ≤ 1) (w : World) : (callFunc 108 #[.int .u64 x, .int .u64 y, .int .u64 c]).run Try.prog w =
    .ok (.value (.tuple #[.int .u64 (((x + y + c) % 18446744073709551616 : Nat) : Int), .int .u64 (((x + y + c) / 18446744073709551616 : Nat) : Int)])) w := by
  rw [run_callFunc_extern (e := add64Entry) Try.func108 (by kernel_rfl) (by kernel_rfl) (by kernel_rfl) (by kernel_rfl), run_add64 x y c (by omega) (by omega) (by omega) (by omega)]
  simp only [Result.andThen]
  congr 5 <;> omega
theorem sub64_f (x y b : Nat) (hb : b ≤ 1) (w : World) : (callFunc 109 #[.int .u64 x, .int .u64 y, .int .u64 b]).run Try.prog w =
    .ok (.value (.tuple #[.int .u64 (((x + 18446744073709551616 - y - b) % 18446744073709551616 : Nat) : Int), .int .u64 ((if x < y + b then 1 else 0 : Nat) : Int)])) w := by
  rw [run_callFunc_extern (e := sub64Entry) Try.func109 (by kernel_rfl) (by kernel_rfl) (by kernel_rfl) (by kernel_rfl), run_sub64 x y b hb]
  rfl
theorem plains3 {x y z : SV} {vs : List Value} {a b c : Value} (hx : plain x = some a) (hy : plain y = some b) (hz : plain z = some c) {m : Nat → Option Nat} (h : dens m [x, y, z] = some vs) : vs = [a, b, c] := by
  have := dens_plains (m := m) (plains_cons hx (plains_cons hy (plains_cons hz plains_nil)))
  rw [h] at this
  exact Option.some.inj this
theorem addE : ExtOne Try.prog 108 oAdd64 := by
  intro args x ob h ho m vs hvs
  unfold oAdd64 at h
  split at h
  · split at h
    · rename_i a b c ha hb hc
      simp only [Option.some.injEq, Prod.mk.injEq] at h; obtain ⟨rfl, rfl⟩ := h
      have h1 := of_decide_eq_true (obs1 ho)
      obtain rfl := plains3 (intS_plain ha) (intS_plain hb) (intS_plain hc) hvs
      obtain ⟨p, rfl⟩ := Int.eq_ofNat_of_zero_le h1.1
      obtain ⟨q, rfl⟩ := Int.eq_ofNat_of_zero_le h1.2.1
      obtain ⟨r, rfl⟩ := Int.eq_ofNat_of_zero_le h1.2.2.1
      refine ⟨_, rfl, fun w => ?_⟩
      rw [show ([Value.int .u64 (p : Int), .int .u64 (q : Int), .int .u64 (r : Int)] : List Value).toArray = #[.int .u64 (p : Int), .int .u64 (q : Int), .int .u64 (r : Int)] from rfl, add64_f p q r (by omega)]
      have e1 : (((p + q + r) % 18446744073709551616 : Nat) : Int) = ((p : Int) + q + r) % 18446744073709551616 := by omega
      have e2 : (((p + q + r) / 18446744073709551616 : Nat) : Int) = ((p : Int) + q + r) / 18446744073709551616 := by omega
      rw [e1, e2]
    · cases h
  · cases h
theorem subE : ExtOne Try.prog 109 oSub64 := by
  intro args x ob h ho m vs hvs
  unfold oSub64 at h
  split at h
  · split at h
    · rename_i a b c ha hb hc
      simp only [Option.some.injEq, Prod.mk.injEq] at h; obtain ⟨rfl, rfl⟩ := h
      have h1 := of_decide_eq_true (obs1 ho)
      obtain rfl := plains3 (intS_plain ha) (intS_plain hb) (intS_plain hc) hvs
      obtain ⟨p, rfl⟩ := Int.eq_ofNat_of_zero_le h1.1
      obtain ⟨q, rfl⟩ := Int.eq_ofNat_of_zero_le h1.2.1
      obtain ⟨r, rfl⟩ := Int.eq_ofNat_of_zero_le h1.2.2.1
      refine ⟨_, rfl, fun w => ?_⟩
      rw [show ([Value.int .u64 (p : Int), .int .u64 (q : Int), .int .u64 (r : Int)] : List Value).toArray = #[.int .u64 (p : Int), .int .u64 (q : Int), .int .u64 (r : Int)] from rfl, sub64_f p q r (by omega)]
      have e1 : (((p + 18446744073709551616 - q - r) % 18446744073709551616 : Nat) : Int) = ((p : Int) - q - r) % 18446744073709551616 := by omega
      have e2 : ((if p < q + r then 1 else 0 : Nat) : Int) = if (p : Int) < q + r then 1 else 0 := by split <;> split <;> omega
      rw [e1, e2]
    · cases h
  · cases h
def EG : ExtF := lookE [(94, oFb), (97, oFf), (108, oAdd64), (109, oSub64)]
theorem goodG : Rx.Good Try.prog EG := Rx.Good.of (by kernel_rfl) (by kernel_rfl) (.cons fbE (.cons ffE (.cons addE (.cons subE (.nil _)))))
theorem oracle0 : OracleOk Try.prog (lookO []) := .nil _

theorem wadd_w (a b c d : Int) (h : u64B a = true ∧ u64B b = true ∧ u64B c = true ∧ u64B d = true) (w : World) :
    Calls Try.prog 83 #[.agg #[.int .u64 a, .int .u64 b], .agg #[.int .u64 c, .int .u64 d]] w fun e w' =>
      e = .returned (.agg #[.int .u64 ((a + c + (b + d + 0) / 18446744073709551616) % 18446744073709551616), .int .u64 ((b + d + 0) % 18446744073709551616)]) ∧ Below w.heap.size w w' := by
  unfold u64B at h
  simp only [decide_eq_true_eq] at h
  refine calls_of_run goodG oracle0 60 (g := 83) (args := [.agg [.si .u64 a, .si .u64 b], .agg [.si .u64 c, .si .u64 d]]) (ds := some []) (x := .agg [.si .u64 ((a + c + (b + d + 0) / 18446744073709551616) % 18446744073709551616), .si .u64 ((b + d + 0) % 18446744073709551616)])
    (M' := [⟨94, [.si .u64 a, .si .u64 b]⟩, ⟨94, [.si .u64 c, .si .u64 d]⟩, ⟨94, [.si .u64 ((a + c + (b + d + 0) / 18446744073709551616) % 18446744073709551616), .si .u64 ((b + d + 0) % 18446744073709551616)]⟩]) (ds' := some [])
    (ob := [(decide (0 ≤ a ∧ 0 ≤ c ∧ 0 ≤ (b + d + 0) / 18446744073709551616 ∧ (b + d + 0) / 18446744073709551616 ≤ 1), true), (decide (0 ≤ b ∧ 0 ≤ d ∧ (0 : Int) ≤ 0 ∧ (0 : Int) ≤ 1), true)]) (by kernel_rfl) (ObsOk.of_B ?_) rfl rfl w
  have h1 : decide (0 ≤ a ∧ 0 ≤ c ∧ 0 ≤ (b + d + 0) / 18446744073709551616 ∧ (b + d + 0) / 18446744073709551616 ≤ 1) = true := decide_eq_true (by omega)
  have h2 : decide (0 ≤ b ∧ 0 ≤ d ∧ (0 : Int) ≤ 0 ∧ (0 : Int) ≤ 1) = true := decide_eq_true (by omega)
  simp only [obsB, List.all_cons, List.all_nil, h1, h2, beq_self_eq_true, Bool.and_self]
theorem wsub_w (a b c d : Int) (h : u64B a = true ∧ u64B b = true ∧ u64B c = true ∧ u64B d = true) (w : World) :
    Calls Try.prog 84 #[.agg #[.int .u64 a, .int .u64 b], .agg #[.int .u64 c, .int .u64 d]] w fun e w' =>
      e = .returned (.agg #[.int .u64 ((a - c - (if b < d + 0 then 1 else 0)) % 18446744073709551616), .int .u64 ((b - d - 0) % 18446744073709551616)]) ∧ Below w.heap.size w w' := by
  unfold u64B at h
  simp only [decide_eq_true_eq] at h
  refine calls_of_run goodG oracle0 60 (g := 84) (args := [.agg [.si .u64 a, .si .u64 b], .agg [.si .u64 c, .si .u64 d]]) (ds := some []) (x := .agg [.si .u64 ((a - c - (if b < d + 0 then 1 else 0)) % 18446744073709551616), .si .u64 ((b - d - 0) % 18446744073709551616)])
    (M' := [⟨94, [.si .u64 a, .si .u64 b]⟩, ⟨94, [.si .u64 c, .si .u64 d]⟩, ⟨94, [.si .u64 ((a - c - (if b < d + 0 then 1 else 0)) % 18446744073709551616), .si .u64 ((b - d - 0) % 18446744073709551616)]⟩]) (ds' := some [])
    (ob := [(decide (0 ≤ a ∧ 0 ≤ c ∧ 0 ≤ (if b < d + 0 then 1 else 0 : Int) ∧ (if b < d + 0 then 1 else 0 : Int) ≤ 1 ∧ a ≤ 18446744073709551615 ∧ c ≤ 18446744073709551615), true), (decide (0 ≤ b ∧ 0 ≤ d ∧ (0 : Int) ≤ 0 ∧ (0 : Int) ≤ 1 ∧ b ≤ 18446744073709551615 ∧ d ≤ 18446744073709551615), true)]) (by kernel_rfl) (ObsOk.of_B ?_) rfl rfl w
  have h1 : decide (0 ≤ a ∧ 0 ≤ c ∧ 0 ≤ (if b < d + 0 then 1 else 0 : Int) ∧ (if b < d + 0 then 1 else 0 : Int) ≤ 1 ∧ a ≤ 18446744073709551615 ∧ c ≤ 18446744073709551615) = true := decide_eq_true (by split <;> omega)
  have h2 : decide (0 ≤ b ∧ 0 ≤ d ∧ (0 : Int) ≤ 0 ∧ (0 : Int) ≤ 1 ∧ b ≤ 18446744073709551615 ∧ d ≤ 18446744073709551615) = true := decide_eq_true (by omega)
  simp only [obsB, List.all_cons, List.all_nil, h1, h2, beq_self_eq_true, Bool.and_self]
end Go.Proofs.Ytiipaicbbmkagaa
