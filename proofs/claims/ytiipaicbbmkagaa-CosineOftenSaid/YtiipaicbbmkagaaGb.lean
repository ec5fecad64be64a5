/- Package dir by the reckoner: what is known. Package dir by the reckoner: sums. -/
import Derived.Test.YtiipaicbbmkagaaRo
import Derived.Test.YtiipaicbbmkagaaGd
import Derived.Test.YtiipaicbbmkagaaFx
import Derived.Shelf.Spec.BitsCarry
import Derived.WalkKit
namespace Go.Proofs.Ytiipaicbbmkagaa
set_option linter.all false
open Go.RowKit Bu Rx

theorem fbE : ExtOne Try.prog 94 oFb := by
  intro args x ob h _ m vs hvs
  unfold oFb at h
  split at h
  · simp only [Option.some.injEq, Prod.mk.injEq] at h; obtain ⟨rfl, _⟩ := h
    simp only [dens, den, Option.bind_some, Option.map_some, Option.some.injEq] at hvs; subst hvs
    exact ⟨_, rfl, fun w => run_fbits _ w⟩
  · simp only [Option.some.injEq, Prod.mk.injEq] at h; obtain ⟨rfl, _⟩ := h
    simp only [dens, den, Option.bind_some, Option.map_some, Option.some.injEq] at hvs; subst hvs
    exact ⟨_, rfl, fun w => run_fbits _ w⟩
  · cases h
theorem ffE : ExtOne Try.prog 97 oFf := by
  intro args x ob h _ m vs hvs
  unfold oFf at h
  split at h
  · simp only [Option.some.injEq, Prod.mk.injEq] at h; obtain ⟨rfl, _⟩ := h
    simp only [dens, den, Option.bind_some, Option.map_some, Option.some.injEq] at hvs; subst hvs
    exact ⟨_, rfl, fun w => run_ffrom _ w⟩
  · simp only [Option.some.injEq, Prod.mk.injEq] at h; obtain ⟨rfl, _⟩ := h
    simp only [dens, den, Option.bind_some, Option.map_some, Option.some.injEq] at hvs; subst hvs
    exact ⟨_, rfl, fun w => run_ffrom _ w⟩
  · cases h
/-! ## sums and differences of two words -/
theorem add64_f (x y c : Nat) (hc : c ≤ 1) (w : World) : (callFunc 108 #[.int .u64 x, .int .u64 y, .int .u64 c]).run Try.prog w =
    .ok (.value (.tuple #[.int .u64 (((x + y + c) % 18446744073709551616 : Nat) : Int), .int .u64 (((x + y + c) / 18446744073709551616 : Nat) : Int)])) w := by
  rw [run_callFunc_extern (e := add64Entry) Try.func108 (by kernel_rfl) (by kernel_rfl) (by kernel_rfl) (by kernel_rfl), run_add64 x y c (by omega) (by omega) (by omega) (by omega)]
  simp only [Result.andThen]
  congr 5 <;> omega
theorem sub64_f (x y b : Nat) (hb : b ≤ 1) (w : World) : (callFunc 109 #[.int .u64 x, .int .u64 y, .int .u64 b]).run Try.prog w =
    .ok (.value (.tuple #[.int .u64 (((x + 18446744073709551616 - y - b) % 18446744073709551616 : Nat) : Int), .int .u64 ((if x < y + b then 1 else 0 : Nat) : Int)])) w := by
  rw [run_callFunc_extern (e := sub64Entry) Try.func109 (by kernel_rfl) (by kernel_rfl) (by kernel_rfl) (by kernel_rfl), run_sub64 x y b hb]
  rfl
theorem plains3 {x y z : SV} {vs : List Value} {a b c : Value} (hx : plain x = some a) (hy : plain y = some b) (hz : plain z = some c) {m : Nat → Option Nat} (h : dens m [x, y, z] = some vs) : vs = [a, b, c] := by
  have := dens_plains (m := m) (plains_cons hx (plains_cons hy (plains_cons hz plains_nil)))
  rw [h] at this
  exact Option.some.inj this
theorem addE : ExtOne Try.prog 108 oAdd64 := by
  intro args x ob h ho m vs hvs
  unfold oAdd64 at h
  split at h
  · split at h
    · rename_i a b c ha hb hc
      simp only [Option.some.injEq, Prod.mk.injEq] at h; obtain ⟨rfl, rfl⟩ := h
      have h1 := of_decide_eq_true (obs1 ho)
      obtain rfl := plains3 (intS_plain ha) (intS_plain hb) (intS_plain hc) hvs
      obtain ⟨p, rfl⟩ := Int.eq_ofNat_of_zero_le h1.1
      obtain ⟨q, rfl⟩ := Int.eq_ofNat_of_zero_le h1.2.1
      obtain ⟨r, rfl⟩ := Int.eq_ofNat_of_zero_le h1.2.2.1
      refine ⟨_, rfl, fun w => ?_⟩
      rw [show ([Value.int .u64 (p : Int), .int .u64 (q : Int), .int .u64 (r : Int)] : List Value).toArray = #[.int .u64 (p : Int), .int .u64 (q : Int), .int .u64 (r : Int)] from rfl, add64_f p q r (by omega)]
      have e1 : (((p + q + r) % 18446744073709551616 : Nat) : Int) = ((p : Int) + q + r) % 18446744073709551616 := by omega
      have e2 : (((p + q + r) / 18446744073709551616 : Nat) : Int) = ((p : Int) + q + r) / 18446744073709551616 := by omega
      rw [e1, e2]
    · cases h
  · cases h
theorem subE : ExtOne Try.prog 109 oSub64 := by
  intro args x ob h ho m vs hvs
  unfold oSub64 at h
  split at h
  · split at h
    · rename_i a b c ha hb hc
      simp only [Option.some.injEq, Prod.mk.injEq] at h; obtain ⟨rfl, rfl⟩ := h
      have h1 := of_decide_eq_true (obs1 ho)
      obtain rfl := plains3 (intS_plain ha) (intS_plain hb) (intS_plain hc) hvs
      obtain ⟨p, rfl⟩ := Int.eq_ofNat_of_zero_le h1.1
      obtain ⟨q, rfl⟩ := Int.eq_ofNat_of_zero_le h1.2.1
      obtain ⟨r, rfl⟩ := Int.eq_ofNat_of_zero_le h1.2.2.1
      refine ⟨_, rfl, fun w => ?_⟩
      rw [show ([Value.int .u64 (p : Int), .int .u64 (q : Int), .int .u64 (r : Int)] : List Value).toArray = #[.int .u64 (p : Int), .int .u64 (q : Int), .int .u64 (r : Int)] from rfl, sub64_f p q r (by omega)]
      have e1 : (((p + 18446744073709551616 - q - r) % 18446744073709551616 : Nat) : Int) = ((p : Int) - q - r) % 18446744073709551616 := by omega
      have e2 : ((if p < q + r then 1 else 0 : Nat) : Int) = if (p : Int) < q + r then 1 else 0 := by split <;> split <;> omega
      rw [e1, e2]
    · cases h
  · cases h
def EG : ExtF := lookE [(94, oFb), (97, oFf), (108, oAdd64), (109, oSub64)]
theorem goodG : Rx.Good Try.prog EG := Rx.Good.of (by kernel_rfl) (by kernel_rfl) (.cons fbE (.cons ffE (.cons addE (.cons subE (.nil _)))))
theorem oracle0 : OracleOk Try.prog (lookO []) := .nil _

theorem wadd_w (a b c d : Int) (h : u64B a = true ∧ u64B b = true ∧ u64B c = true ∧ u64B d = true) (w : World) :
    Calls Try.prog 83 #[.agg #[.int .u64 a, .int .u64 b], .agg #[.int .u64 c, .int .u64 d]] w fun e w' =>
      e = .returned (.agg #[.int .u64 ((a + c + (b + d + 0) / 18446744073709551616) % 18446744073709551616), .int .u64 ((b + d + 0) % 18446744073709551616)]) ∧ Below w.heap.size w w' := by
  unfold u64B at h
  simp only [decide_eq_true_eq] at h
  refine calls_of_run goodG oracle0 60 (g := 83) (args := [.agg [.si .u64 a, .si .u64 b], .agg [.si .u64 c, .si .u64 d]]) (ds := some []) (x := .agg [.si .u64 ((a + c + (b + d + 0) / 18446744073709551616) % 18446744073709551616), .si .u64 ((b + d + 0) % 18446744073709551616)])
    (M' := [⟨94, [.si .u64 a, .si .u64 b]⟩, ⟨94, [.si .u64 c, .si .u64 d]⟩, ⟨94, [.si .u64 ((a + c + (b + d + 0) / 18446744073709551616) % 18446744073709551616), .si .u64 ((b + d + 0) % 18446744073709551616)]⟩]) (ds' := some [])
    (ob := [(decide (0 ≤ a ∧ 0 ≤ c ∧ 0 ≤ (b + d + 0) / 18446744073709551616 ∧ (b + d + 0) / 18446744073709551616 ≤ 1), true), (decide (0 ≤ b ∧ 0 ≤ d ∧ (0 : Int) ≤ 0 ∧ (0 : Int) ≤ 1), true)]) (by kernel_rfl) (ObsOk.of_B ?_) rfl rfl w
  have h1 : decide (0 ≤ a ∧ 0 ≤ c ∧ 0 ≤ (b + d + 0) / 18446744073709551616 ∧ (b + d + 0) / 18446744073709551616 ≤ 1) = true := decide_eq_true (by omega)
  have h2 : decide (0 ≤ b ∧ 0 ≤ d ∧ (0 : Int) ≤ 0 ∧ (0 : Int) ≤ 1) = true := decide_eq_true (by omega)
  simp only [obsB, List.all_cons, List.all_nil, h1, h2, beq_self_eq_true, Bool.and_self]
theorem wsub_w (a b c d : Int) (h : u64B a = true ∧ u64B b = true ∧ u64B c = true ∧ u64B d = true) (w : World) :
    Calls Try.prog 84 #[.agg #[.int .u64 a, .int .u64 b], .agg #[.int .u64 c, .int .u64 d]] w fun e w' =>
      e = .returned (.agg #[.int .u64 ((a - c - (if b < d + 0 then 1 else 0)) % 18446744073709551616), .int .u64 ((b - d - 0) % 18446744073709551616)]) ∧ Below w.heap.size w w' := by
  unfold u64B at h
  simp only [decide_eq_true_eq] at h
  refine calls_of_run goodG oracle0 60 (g := 84) (args := [.agg [.si .u64 a, .si .u64 b], .agg [.si .u64 c, .si .u64 d]]) (ds := some []) (x := .agg [.si .u64 ((a - c - (if b < d + 0 then 1 else 0)) % 18446744073709551616), .si .u64 ((b - d - 0) % 18446744073709551616)])
    (M' := [⟨94, [.si .u64 a, .si .u64 b]⟩, ⟨94, [.si .u64 c, .si .u64 d]⟩, ⟨94, [.si .u64 ((a - c - (if b < d + 0 then 1 else 0)) % 18446744073709551616), .si .u64 ((b - d - 0) % 18446744073709551616)]⟩]) (ds' := some [])
    (ob := [(decide (0 ≤ a ∧ 0 ≤ c ∧ 0 ≤ (if b < d + 0 then 1 else 0 : Int) ∧ (if b < d + 0 then 1 else 0 : Int) ≤ 1 ∧ a ≤ 18446744073709551615 ∧ c ≤ 18446744073709551615), true), (decide (0 ≤ b ∧ 0 ≤ d ∧ (0 : Int) ≤ 0 ∧ (0 : Int) ≤ 1 ∧ b ≤ 18446744073709551615 ∧ d ≤ 18446744073709551615), true)]) (by kernel_rfl) (ObsOk.of_B ?_) rfl rfl w
  have h1 : decide (0 ≤ a ∧ 0 ≤ c ∧ 0 ≤ (if b < d + 0 then 1 else 0 : Int) ∧ (if b < d + 0 then 1 else 0 : Int) ≤ 1 ∧ a ≤ 18446744073709551615 ∧ c ≤ 18446744073709551615) = true := decide_eq_true (by split <;> omega)
  have h2 : decide (0 ≤ b ∧ 0 ≤ d ∧ (0 : Int) ≤ 0 ∧ (0 : Int) ≤ 1 ∧ b ≤ 18446744073709551615 ∧ d ≤ 18446744073709551615) = true := decide_eq_true (by omega)
  simp only [obsB, List.all_cons, List.all_nil, h1, h2, beq_self_eq_true, Bool.and_self]
end Go.Proofs.Ytiipaicbbmkagaa
namespace Go.Proofs.Ytiipaicbbmkagaa
open Go.RowKit Bu Rx

def oParts : List SV → Dec → Option (SV × Dec × Obs)
  | [.fl x], ds => (takeB ds (sg x)).map fun r => (.tup [.b r.1, .si .u64 (mn x), .si .i64 ((ex x : Int) - 1074)], r.2.1, r.2.2)
  | _, _ => none
def oDown : List SV → Dec → Option (SV × Dec × Obs)
  | [.agg [x, y], z], ds => match intS x, intS y, intS z with
    | some (.u64, a), some (.u64, b), some (.i64, n) => (takeB ds (decide (wn a b % 2 ^ n.toNat ≠ 0))).map fun r =>
      (.tup [.agg [.si .u64 (hi (wn a b / 2 ^ n.toNat)), .si .u64 (lo (wn a b / 2 ^ n.toNat))], .b r.1], r.2.1, (u64B a, true) :: (u64B b, true) :: (decide (0 ≤ n), true) :: r.2.2)
    | _, _, _ => none
  | _, _ => none
def oRound : List SV → Dec → Option (SV × Dec × Obs)
  | [.agg [.b minus, x, y, .b more, z], .b up], ds => match intS x, intS y, intS z with
    | some (.u64, a), some (.u64, b), some (.i64, e) => some (.tup [.fl (rndG minus (wn a b) more e up).1, .si .i64 (rndG minus (wn a b) more e up).2], ds, [(u64B a, true), (u64B b, true), (decide (-5000 ≤ e ∧ e ≤ 5000), true)])
    | _, _, _ => none
  | _, _ => none
def oWadd : List SV → Dec → Option (SV × Dec × Obs)
  | [.agg [x, y], .agg [z, u]], ds => match intS x, intS y, intS z, intS u with
    | some (.u64, a), some (.u64, b), some (.u64, c), some (.u64, d) => some (.agg [.si .u64 ((a + c + (b + d + 0) / 18446744073709551616) % 18446744073709551616), .si .u64 ((b + d + 0) % 18446744073709551616)], ds, [(u64B a, true), (u64B b, true), (u64B c, true), (u64B d, true)])
    | _, _, _, _ => none
  | _, _ => none
def oWsub : List SV → Dec → Option (SV × Dec × Obs)
  | [.agg [x, y], .agg [z, u]], ds => match intS x, intS y, intS z, intS u with
    | some (.u64, a), some (.u64, b), some (.u64, c), some (.u64, d) => some (.agg [.si .u64 ((a - c - (if b < d + 0 then 1 else 0)) % 18446744073709551616), .si .u64 ((b - d - 0) % 18446744073709551616)], ds, [(u64B a, true), (u64B b, true), (u64B c, true), (u64B d, true)])
    | _, _, _, _ => none
  | _, _ => none

theorem rightG : PlainOk Try.prog 60 oRight := by
  intro args ds x ds' ob h ho
  unfold oRight at h
  split at h
  · rename_i x
    simp only [Option.some.injEq, Prod.mk.injEq] at h; obtain ⟨rfl, _, _⟩ := h
    refine ⟨[.float .f64 x.b], .bool true, rfl, rfl, fun w => (right_F_w x w).mono ?_⟩
    rintro e w' ⟨rfl, rfl⟩; exact ⟨rfl, Below.refl _ _⟩
  · rename_i v
    split at h
    · rename_i hb
      simp only [Option.some.injEq, Prod.mk.injEq] at h; obtain ⟨rfl, _, rfl⟩ := h
      have hr := takeB_ok hb ho
      obtain ⟨y, rfl⟩ := F_of_right hr.symm
      refine ⟨[.float .f64 y.b], .bool true, rfl, rfl, fun w => (right_F_w y w).mono ?_⟩
      rintro e w' ⟨rfl, rfl⟩; exact ⟨rfl, Below.refl _ _⟩
    · rename_i o hb
      simp only [Option.some.injEq, Prod.mk.injEq] at h; obtain ⟨rfl, _, rfl⟩ := h
      have hr := takeB_ok hb (ObsOk.right (a := [_]) ho)
      have hlt := Nat.blt_eq.mp (ho _ (List.mem_cons_self ..))
      refine ⟨[.float .f64 v], .bool false, rfl, rfl, fun w => (right_no_w v hlt hr.symm w).mono ?_⟩
      rintro e w' ⟨rfl, rfl⟩; exact ⟨rfl, Below.refl _ _⟩
    · cases h
  · cases h
theorem partsG : PlainOk Try.prog 79 oParts := by
  intro args ds x ds' ob h ho
  unfold oParts at h
  split at h
  · rename_i x
    simp only [Option.map_eq_some_iff, Prod.mk.injEq] at h
    obtain ⟨⟨d, _, _⟩, h1, rfl, rfl, rfl⟩ := h
    refine ⟨[.float .f64 x.b], .tuple #[.bool d, .int .u64 (mn x), .int .i64 ((ex x : Int) - 1074)], rfl, rfl, fun w => (parts_F x w).mono ?_⟩
    rintro e w' ⟨rfl, rfl⟩
    rw [takeB_ok h1 ho]
    exact ⟨rfl, Below.refl _ _⟩
  · cases h
theorem u64_of {n : Int} (h : u64B n = true) : 0 ≤ n ∧ n ≤ 18446744073709551615 := of_decide_eq_true h
theorem downG : PlainOk Try.prog 82 oDown := by
  intro args ds x ds' ob h ho
  unfold oDown at h
  split at h
  · rename_i x y z
    split at h
    · rename_i a b n ha hb hn
      simp only [Option.map_eq_some_iff, Prod.mk.injEq] at h
      obtain ⟨⟨d, _, o⟩, h1, rfl, rfl, rfl⟩ := h
      have k1 := u64_of (ho (u64B a, true) (by simp))
      have k2 := u64_of (ho (u64B b, true) (by simp))
      have k3 := of_decide_eq_true (ho (decide (0 ≤ n), true) (by simp))
      have ho' : ObsOk o := fun p hp => ho p (by simp [hp])
      obtain ⟨q, rfl⟩ := Int.eq_ofNat_of_zero_le k3
      have hd := takeB_ok h1 ho'
      simp only [Int.toNat_natCast] at hd ⊢
      refine ⟨[.agg #[.int .u64 a, .int .u64 b], .int .i64 q], .tuple #[.agg #[.int .u64 (hi (wn a b / 2 ^ q)), .int .u64 (lo (wn a b / 2 ^ q))], .bool d], plains_cons (plain_agg (plains_cons (intS_plain ha) (plains_cons (intS_plain hb) plains_nil))) (plains_cons (intS_plain hn) plains_nil), rfl, fun w => ?_⟩
      rw [hd]
      exact down_w a b q w k1.1 k1.2 k2.1 k2.2
    · cases h
  · cases h
theorem roundG : PlainOk Try.prog 81 oRound := by
  intro args ds x ds' ob h ho
  unfold oRound at h
  split at h
  · rename_i minus x y more z up
    split at h
    · rename_i a b e ha hb he
      simp only [Option.some.injEq, Prod.mk.injEq] at h
      obtain ⟨rfl, rfl, rfl⟩ := h
      have k1 := u64_of (ho (u64B a, true) (by simp))
      have k2 := u64_of (ho (u64B b, true) (by simp))
      have k3 := of_decide_eq_true (ho (decide (-5000 ≤ e ∧ e ≤ 5000), true) (by simp))
      exact ⟨[.agg #[.bool minus, .int .u64 a, .int .u64 b, .bool more, .int .i64 e], .bool up], .tuple #[.float .f64 (rndG minus (wn a b) more e up).1.b, .int .i64 (rndG minus (wn a b) more e up).2],
        plains_cons (plain_agg (plains_cons rfl (plains_cons (intS_plain ha) (plains_cons (intS_plain hb) (plains_cons rfl (plains_cons (intS_plain he) plains_nil)))))) (plains_cons rfl plains_nil), rfl, fun w => rounded_w minus more up a b e w k1.1 k1.2 k2.1 k2.2 k3.1 k3.2⟩
    · cases h
  · cases h
theorem waddG : PlainOk Try.prog 83 oWadd := by
  intro args ds x ds' ob h ho
  unfold oWadd at h
  split at h
  · rename_i x y z u
    split at h
    · rename_i a b c d ha hb hc hd
      simp only [Option.some.injEq, Prod.mk.injEq] at h
      obtain ⟨rfl, rfl, rfl⟩ := h
      exact ⟨[.agg #[.int .u64 a, .int .u64 b], .agg #[.int .u64 c, .int .u64 d]], _, plains_cons (plain_agg (plains_cons (intS_plain ha) (plains_cons (intS_plain hb) plains_nil))) (plains_cons (plain_agg (plains_cons (intS_plain hc) (plains_cons (intS_plain hd) plains_nil))) plains_nil), rfl,
        fun w => wadd_w a b c d ⟨ho (u64B a, true) (by simp), ho (u64B b, true) (by simp), ho (u64B c, true) (by simp), ho (u64B d, true) (by simp)⟩ w⟩
    · cases h
  · cases h
theorem wsubG : PlainOk Try.prog 84 oWsub := by
  intro args ds x ds' ob h ho
  unfold oWsub at h
  split at h
  · rename_i x y z u
    split at h
    · rename_i a b c d ha hb hc hd
      simp only [Option.some.injEq, Prod.mk.injEq] at h
      obtain ⟨rfl, rfl, rfl⟩ := h
      exact ⟨[.agg #[.int .u64 a, .int .u64 b], .agg #[.int .u64 c, .int .u64 d]], _, plains_cons (plain_agg (plains_cons (intS_plain ha) (plains_cons (intS_plain hb) plains_nil))) (plains_cons (plain_agg (plains_cons (intS_plain hc) (plains_cons (intS_plain hd) plains_nil))) plains_nil), rfl,
        fun w => wsub_w a b c d ⟨ho (u64B a, true) (by simp), ho (u64B b, true) (by simp), ho (u64B c, true) (by simp), ho (u64B d, true) (by simp)⟩ w⟩
    · cases h
  · cases h
def OG1 : OracleF := lookO [(60, plainO oRight), (79, plainO oParts), (82, plainO oDown), (81, plainO oRound), (83, plainO oWadd), (84, plainO oWsub)]
theorem oracleG1 : OracleOk Try.prog OG1 := .cons rightG.of (.cons partsG.of (.cons downG.of (.cons roundG.of (.cons waddG.of (.cons wsubG.of (.nil _))))))
end Go.Proofs.Ytiipaicbbmkagaa
