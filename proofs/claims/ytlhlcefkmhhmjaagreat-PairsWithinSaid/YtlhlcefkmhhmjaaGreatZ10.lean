/- Package dir by the reckoner: what is known. Package dir by the reckoner: sums. Package dir by names: the known functions are these. Package dir by the reckoner: Add, Sub. Package dir by the reckoner: Sub, Mul. -/
import Derived.Test.YtlhlcefkmhhmjaaGreatZ08
import Derived.Test.YtlhlcefkmhhmjaaGreatZ07
import Derived.Test.YtlhlcefkmhhmjaaGreatZ09
import Derived.Shelf.Spec.BitsCarry
import Derived.WalkKit
import Derived.Test.YtlhlcefkmhhmjaaGreatShelf
namespace Go.Proofs.YtlhlcefkmhhmjaaGreat
set_option linter.all false
open Go.RowKit Bu Rx

theorem fbE : ExtOne Tryz.prog 78 oFb := by
  intro args x ob h _ m vs hvs
  unfold oFb at h
  split at h
  · simp only [Option.some.injEq, Prod.mk.injEq] at h; obtain ⟨rfl, _⟩ := h
    simp only [dens, den, Option.bind_some, Option.map_some, Option.some.injEq] at hvs; subst hvs
    exact ⟨_, rfl, fun w => run_fbits _ w⟩
  · simp only [Option.some.injEq, Prod.mk.injEq] at h; obtain ⟨rfl, _⟩ := h
    simp only [dens, den, Option.bind_some, Option.map_some, Option.some.injEq] at hvs; subst hvs
    exact ⟨_, rfl, fun w => run_fbits _ w⟩
  · cases h
theorem ffE : ExtOne Tryz.prog 77 oFf := by
  intro args x ob h _ m vs hvs
  unfold oFf at h
  split at h
  · simp only [Option.some.injEq, Prod.mk.injEq] at h; obtain ⟨rfl, _⟩ := h
    simp only [dens, den, Option.bind_some, Option.map_some, Option.some.injEq] at hvs; subst hvs
    exact ⟨_, rfl, fun w => run_ffrom _ w⟩
  · simp only [Option.some.injEq, Prod.mk.injEq] at h; obtain ⟨rfl, _⟩ := h
    simp only [dens, den, Option.bind_some, Option.map_some, Option.some.injEq] at hvs; subst hvs
    exact ⟨_, rfl, fun w => run_ffrom _ w⟩
  · cases h
theorem add64_f (x y c : Nat) (hc : c ≤ 1) (w : World) : (callFunc 141 #[.int .u64 x, .int .u64 y, .int .u64 c]).run Tryz.prog w =
    .ok (.value (.tuple #[.int .u64 (((x + y + c) % 18446744073709551616 : Nat) : Int), .int .u64 (((x + y + c) / 18446744073709551616 : Nat) : Int)])) w := by
  rw [run_callFunc_extern (e := add64Entry) Tryz.func141 (by kernel_rfl) (by kernel_rfl) (by kernel_rfl) (by kernel_rfl), run_add64 x y c (by omega) (by omega) (by omega) (by omega)]
  simp only [Result.andThen]
  congr 5 <;> omega
theorem sub64_f (x y b : Nat) (hb : b ≤ 1) (w : World) : (callFunc 142 #[.int .u64 x, .int .u64 y, .int .u64 b]).run Tryz.prog w =
    .ok (.value (.tuple #[.int .u64 (((x + 18446744073709551616 - y - b) % 18446744073709551616 : Nat) : Int), .int .u64 ((if x < y + b then 1 else 0 : Nat) : Int)])) w := by
  rw [run_callFunc_extern (e := sub64Entry) Tryz.func142 (by kernel_rfl) (by kernel_rfl) (by kernel_rfl) (by kernel_rfl), run_sub64 x y b hb]
  rfl
theorem plains3 {x y z : SV} {vs : List Value} {a b c : Value} (hx : plain x = some a) (hy : plain y = some b) (hz : plain z = some c) {m : Nat → Option Nat} (h : dens m [x, y, z] = some vs) : vs = [a, b, c] := by
  have := dens_plains (m := m) (plains_cons hx (plains_cons hy (plains_cons hz plains_nil)))
  rw [h] at this
  exact Option.some.inj this
theorem addE : ExtOne Tryz.prog 141 oAdd64 := by
  intro args x ob h ho m vs hvs
  unfold oAdd64 at h
  split at h
  · split at h
    · rename_i a b c ha hb hc
      simp only [Option.some.injEq, Prod.mk.injEq] at h; obtain ⟨rfl, rfl⟩ := h
      have h1 := of_decide_eq_true (obs1 ho)
      obtain rfl := plains3 (intS_plain ha) (intS_plain hb) (intS_plain hc) hvs
      obtain ⟨p, rfl⟩ := Int.eq_ofNat_of_zero_le h1.1
      obtain ⟨q, rfl⟩ := Int.eq_ofNat_of_zero_le h1.2.1
      obtain ⟨r, rfl⟩ := Int.eq_ofNat_of_zero_le h1.2.2.1
      refine ⟨_, rfl, fun w => ?_⟩
      rw [show ([Value.int .u64 (p : Int), .int .u64 (q : Int), .int .u64 (r : Int)] : List Value).toArray = #[.int .u64 (p : Int), .int .u64 (q : Int), .int .u64 (r : Int)] from rfl, add64_f p q r (by omega)]
      have e1 : (((p + q + r) % 18446744073709551616 : Nat) : Int) = ((p : Int) + q + r) % 18446744073709551616 := by omega
      have e2 : (((p + q + r) / 18446744073709551616 : Nat) : Int) = ((p : Int) + q + r) / 18446744073709551616 := by omega
      rw [e1, e2]
    · cases h
  · cases h
theorem subE : ExtOne Tryz.prog 142 oSub64 := by
  intro args x ob h ho m vs hvs
  unfold oSub64 at h
  split at h
  · split at h
    · rename_i a b c ha hb hc
      simp only [Option.some.injEq, Prod.mk.injEq] at h; obtain ⟨rfl, rfl⟩ := h
      have h1 := of_decide_eq_true (obs1 ho)
      obtain rfl := plains3 (intS_plain ha) (intS_plain hb) (intS_plain hc) hvs
      obtain ⟨p, rfl⟩ := Int.eq_ofNat_of_zero_le h1.1
      obtain ⟨q, rfl⟩ := Int.eq_ofNat_of_zero_le h1.2.1
      obtain ⟨r, rfl⟩ := Int.eq_ofNat_of_zero_le h1.2.2.1
      refine ⟨_, rfl, fun w => ?_⟩
      rw [show ([Value.int .u64 (p : Int), .int .u64 (q : Int), .int .u64 (r : Int)] : List Value).toArray = #[.int .u64 (p : Int), .int .u64 (q : Int), .int .u64 (r : Int)] from rfl, sub64_f p q r (by omega)]
      have e1 : (((p + 18446744073709551616 - q - r) % 18446744073709551616 : Nat) : Int) = ((p : Int) - q - r) % 18446744073709551616 := by omega
      have e2 : ((if p < q + r then 1 else 0 : Nat) : Int) = if (p : Int) < q + r then 1 else 0 := by split <;> split <;> omega
      rw [e1, e2]
    · cases h
  · cases h
def EG : ExtF := lookE [(78, oFb), (77, oFf), (141, oAdd64), (142, oSub64)]
theorem goodG : Rx.Good Tryz.prog EG := Rx.Good.of (by kernel_rfl) (by kernel_rfl) (.cons fbE (.cons ffE (.cons addE (.cons subE (.nil _)))))
theorem oracle0 : OracleOk Tryz.prog (lookO []) := .nil _

theorem wadd_w (a b c d : Int) (h : u64B a = true ∧ u64B b = true ∧ u64B c = true ∧ u64B d = true) (w : World) :
    Calls Tryz.prog 133 #[.agg #[.int .u64 a, .int .u64 b], .agg #[.int .u64 c, .int .u64 d]] w fun e w' =>
      e = .returned (.agg #[.int .u64 ((a + c + (b + d + 0) / 18446744073709551616) % 18446744073709551616), .int .u64 ((b + d + 0) % 18446744073709551616)]) ∧ Below w.heap.size w w' := by
  unfold u64B at h
  simp only [decide_eq_true_eq] at h
  refine calls_of_run goodG oracle0 60 (g := 133) (args := [.agg [.si .u64 a, .si .u64 b], .agg [.si .u64 c, .si .u64 d]]) (ds := some []) (x := .agg [.si .u64 ((a + c + (b + d + 0) / 18446744073709551616) % 18446744073709551616), .si .u64 ((b + d + 0) % 18446744073709551616)])
    (M' := [⟨110, [.si .u64 a, .si .u64 b]⟩, ⟨110, [.si .u64 c, .si .u64 d]⟩, ⟨110, [.si .u64 ((a + c + (b + d + 0) / 18446744073709551616) % 18446744073709551616), .si .u64 ((b + d + 0) % 18446744073709551616)]⟩]) (ds' := some [])
    (ob := [(decide (0 ≤ a ∧ 0 ≤ c ∧ 0 ≤ (b + d + 0) / 18446744073709551616 ∧ (b + d + 0) / 18446744073709551616 ≤ 1), true), (decide (0 ≤ b ∧ 0 ≤ d ∧ (0 : Int) ≤ 0 ∧ (0 : Int) ≤ 1), true)]) (by kernel_rfl) (ObsOk.of_B ?_) rfl rfl w
  have h1 : decide (0 ≤ a ∧ 0 ≤ c ∧ 0 ≤ (b + d + 0) / 18446744073709551616 ∧ (b + d + 0) / 18446744073709551616 ≤ 1) = true := decide_eq_true (by omega)
  have h2 : decide (0 ≤ b ∧ 0 ≤ d ∧ (0 : Int) ≤ 0 ∧ (0 : Int) ≤ 1) = true := decide_eq_true (by omega)
  simp only [obsB, List.all_cons, List.all_nil, h1, h2, beq_self_eq_true, Bool.and_self]
theorem wsub_w (a b c d : Int) (h : u64B a = true ∧ u64B b = true ∧ u64B c = true ∧ u64B d = true) (w : World) :
    Calls Tryz.prog 134 #[.agg #[.int .u64 a, .int .u64 b], .agg #[.int .u64 c, .int .u64 d]] w fun e w' =>
      e = .returned (.agg #[.int .u64 ((a - c - (if b < d + 0 then 1 else 0)) % 18446744073709551616), .int .u64 ((b - d - 0) % 18446744073709551616)]) ∧ Below w.heap.size w w' := by
  unfold u64B at h
  simp only [decide_eq_true_eq] at h
  refine calls_of_run goodG oracle0 60 (g := 134) (args := [.agg [.si .u64 a, .si .u64 b], .agg [.si .u64 c, .si .u64 d]]) (ds := some []) (x := .agg [.si .u64 ((a - c - (if b < d + 0 then 1 else 0)) % 18446744073709551616), .si .u64 ((b - d - 0) % 18446744073709551616)])
    (M' := [⟨110, [.si .u64 a, .si .u64 b]⟩, ⟨110, [.si .u64 c, .si .u64 d]⟩, ⟨110, [.si .u64 ((a - c - (if b < d + 0 then 1 else 0)) % 18446744073709551616), .si .u64 ((b - d - 0) % 18446744073709551616)]⟩]) (ds' := some [])
    (ob := [(decide (0 ≤ a ∧ 0 ≤ c ∧ 0 ≤ (if b < d + 0 then 1 else 0 : Int) ∧ (if b < d + 0 then 1 else 0 : Int) ≤ 1 ∧ a ≤ 18446744073709551615 ∧ c ≤ 18446744073709551615), true), (decide (0 ≤ b ∧ 0 ≤ d ∧ (0 : Int) ≤ 0 ∧ (0 : Int) ≤ 1 ∧ b ≤ 18446744073709551615 ∧ d ≤ 18446744073709551615), true)]) (by kernel_rfl) (ObsOk.of_B ?_) rfl rfl w
  have h1 : decide (0 ≤ a ∧ 0 ≤ c ∧ 0 ≤ (if b < d + 0 then 1 else 0 : Int) ∧ (if b < d + 0 then 1 else 0 : Int) ≤ 1 ∧ a ≤ 18446744073709551615 ∧ c ≤ 18446744073709551615) = true := decide_eq_true (by split <;> omega)
  have h2 : decide (0 ≤ b ∧ 0 ≤ d ∧ (0 : Int) ≤ 0 ∧ (0 : Int) ≤ 1 ∧ b ≤ 18446744073709551615 ∧ d ≤ 18446744073709551615) = true := decide_eq_true (by omega)
  simp only [obsB, List.all_cons, List.all_nil, h1, h2, beq_self_eq_true, Bool.and_self]
end Go.Proofs.YtlhlcefkmhhmjaaGreat
namespace Go.Proofs.YtlhlcefkmhhmjaaGreat
set_option linter.all false
open Go.RowKit Bu Rx

def oParts : List SV → Dec → Option (SV × Dec × Obs)
  | [.fl x], ds => (takeB ds (sg x)).map fun r => (.tup [.b r.1, .si .u64 (mn x), .si .i64 ((ex x : Int) - 1074)], r.2.1, r.2.2)
  | _, _ => none
def oDown : List SV → Dec → Option (SV × Dec × Obs)
  | [.agg [x, y], z], ds => match intS x, intS y, intS z with
    | some (.u64, a), some (.u64, b), some (.i64, n) => (takeB ds (decide (wn a b % 2 ^ n.toNat ≠ 0))).map fun r =>
      (.tup [.agg [.si .u64 (hi (wn a b / 2 ^ n.toNat)), .si .u64 (lo (wn a b / 2 ^ n.toNat))], .b r.1], r.2.1, (u64B a, true) :: (u64B b, true) :: (decide (0 ≤ n), true) :: r.2.2)
    | _, _, _ => none
  | _, _ => none
def oRound : List SV → Dec → Option (SV × Dec × Obs)
  | [.agg [.b minus, x, y, .b more, z], .b up], ds => match intS x, intS y, intS z with
    | some (.u64, a), some (.u64, b), some (.i64, e) => some (.tup [.fl (rndG minus (wn a b) more e up).1, .si .i64 (rndG minus (wn a b) more e up).2], ds, [(u64B a, true), (u64B b, true), (decide (-5000 ≤ e ∧ e ≤ 5000), true)])
    | _, _, _ => none
  | _, _ => none
def oWadd : List SV → Dec → Option (SV × Dec × Obs)
  | [.agg [x, y], .agg [z, u]], ds => match intS x, intS y, intS z, intS u with
    | some (.u64, a), some (.u64, b), some (.u64, c), some (.u64, d) => some (.agg [.si .u64 ((a + c + (b + d + 0) / 18446744073709551616) % 18446744073709551616), .si .u64 ((b + d + 0) % 18446744073709551616)], ds, [(u64B a, true), (u64B b, true), (u64B c, true), (u64B d, true)])
    | _, _, _, _ => none
  | _, _ => none
def oWsub : List SV → Dec → Option (SV × Dec × Obs)
  | [.agg [x, y], .agg [z, u]], ds => match intS x, intS y, intS z, intS u with
    | some (.u64, a), some (.u64, b), some (.u64, c), some (.u64, d) => some (.agg [.si .u64 ((a - c - (if b < d + 0 then 1 else 0)) % 18446744073709551616), .si .u64 ((b - d - 0) % 18446744073709551616)], ds, [(u64B a, true), (u64B b, true), (u64B c, true), (u64B d, true)])
    | _, _, _, _ => none
  | _, _ => none

theorem rightG : PlainOk Tryz.prog 50 oRight := by
  intro args ds x ds' ob h ho
  unfold oRight at h
  split at h
  · rename_i x
    simp only [Option.some.injEq, Prod.mk.injEq] at h; obtain ⟨rfl, _, _⟩ := h
    refine ⟨[.float .f64 x.b], .bool true, rfl, rfl, fun w => (right_F_w x w).mono ?_⟩
    rintro e w' ⟨rfl, rfl⟩; exact ⟨rfl, Below.refl _ _⟩
  · rename_i v
    split at h
    · rename_i hb
      simp only [Option.some.injEq, Prod.mk.injEq] at h; obtain ⟨rfl, _, rfl⟩ := h
      have hr := takeB_ok hb ho
      obtain ⟨y, rfl⟩ := F_of_right hr.symm
      refine ⟨[.float .f64 y.b], .bool true, rfl, rfl, fun w => (right_F_w y w).mono ?_⟩
      rintro e w' ⟨rfl, rfl⟩; exact ⟨rfl, Below.refl _ _⟩
    · rename_i o hb
      simp only [Option.some.injEq, Prod.mk.injEq] at h; obtain ⟨rfl, _, rfl⟩ := h
      have hr := takeB_ok hb (ObsOk.right (a := [_]) ho)
      have hlt := Nat.blt_eq.mp (ho _ (List.mem_cons_self ..))
      refine ⟨[.float .f64 v], .bool false, rfl, rfl, fun w => (right_no_w v hlt hr.symm w).mono ?_⟩
      rintro e w' ⟨rfl, rfl⟩; exact ⟨rfl, Below.refl _ _⟩
    · cases h
  · cases h
theorem partsG : PlainOk Tryz.prog 69 oParts := by
  intro args ds x ds' ob h ho
  unfold oParts at h
  split at h
  · rename_i x
    simp only [Option.map_eq_some_iff, Prod.mk.injEq] at h
    obtain ⟨⟨d, _, _⟩, h1, rfl, rfl, rfl⟩ := h
    refine ⟨[.float .f64 x.b], .tuple #[.bool d, .int .u64 (mn x), .int .i64 ((ex x : Int) - 1074)], rfl, rfl, fun w => (parts_F x w).mono ?_⟩
    rintro e w' ⟨rfl, rfl⟩
    rw [takeB_ok h1 ho]
    exact ⟨rfl, Below.refl _ _⟩
  · cases h
theorem u64_of {n : Int} (h : u64B n = true) : 0 ≤ n ∧ n ≤ 18446744073709551615 := of_decide_eq_true h
theorem downG : PlainOk Tryz.prog 110 oDown := by
  intro args ds x ds' ob h ho
  unfold oDown at h
  split at h
  · rename_i x y z
    split at h
    · rename_i a b n ha hb hn
      simp only [Option.map_eq_some_iff, Prod.mk.injEq] at h
      obtain ⟨⟨d, _, o⟩, h1, rfl, rfl, rfl⟩ := h
      have k1 := u64_of (ho (u64B a, true) (by simp))
      have k2 := u64_of (ho (u64B b, true) (by simp))
      have k3 := of_decide_eq_true (ho (decide (0 ≤ n), true) (by simp))
      have ho' : ObsOk o := fun p hp => ho p (by simp [hp])
      obtain ⟨q, rfl⟩ := Int.eq_ofNat_of_zero_le k3
      have hd := takeB_ok h1 ho'
      simp only [Int.toNat_natCast] at hd ⊢
      refine ⟨[.agg #[.int .u64 a, .int .u64 b], .int .i64 q], .tuple #[.agg #[.int .u64 (hi (wn a b / 2 ^ q)), .int .u64 (lo (wn a b / 2 ^ q))], .bool d], plains_cons (plain_agg (plains_cons (intS_plain ha) (plains_cons (intS_plain hb) plains_nil))) (plains_cons (intS_plain hn) plains_nil), rfl, fun w => ?_⟩
      rw [hd]
      exact down_w a b q w k1.1 k1.2 k2.1 k2.2
    · cases h
  · cases h
theorem roundG : PlainOk Tryz.prog 72 oRound := by
  intro args ds x ds' ob h ho
  unfold oRound at h
  split at h
  · rename_i minus x y more z up
    split at h
    · rename_i a b e ha hb he
      simp only [Option.some.injEq, Prod.mk.injEq] at h
      obtain ⟨rfl, rfl, rfl⟩ := h
      have k1 := u64_of (ho (u64B a, true) (by simp))
      have k2 := u64_of (ho (u64B b, true) (by simp))
      have k3 := of_decide_eq_true (ho (decide (-5000 ≤ e ∧ e ≤ 5000), true) (by simp))
      exact ⟨[.agg #[.bool minus, .int .u64 a, .int .u64 b, .bool more, .int .i64 e], .bool up], .tuple #[.float .f64 (rndG minus (wn a b) more e up).1.b, .int .i64 (rndG minus (wn a b) more e up).2],
        plains_cons (plain_agg (plains_cons rfl (plains_cons (intS_plain ha) (plains_cons (intS_plain hb) (plains_cons rfl (plains_cons (intS_plain he) plains_nil)))))) (plains_cons rfl plains_nil), rfl, fun w => rounded_w minus more up a b e w k1.1 k1.2 k2.1 k2.2 k3.1 k3.2⟩
    · cases h
  · cases h
theorem waddG : PlainOk Tryz.prog 133 oWadd := by
  intro args ds x ds' ob h ho
  unfold oWadd at h
  split at h
  · rename_i x y z u
    split at h
    · rename_i a b c d ha hb hc hd
      simp only [Option.some.injEq, Prod.mk.injEq] at h
      obtain ⟨rfl, rfl, rfl⟩ := h
      exact ⟨[.agg #[.int .u64 a, .int .u64 b], .agg #[.int .u64 c, .int .u64 d]], _, plains_cons (plain_agg (plains_cons (intS_plain ha) (plains_cons (intS_plain hb) plains_nil))) (plains_cons (plain_agg (plains_cons (intS_plain hc) (plains_cons (intS_plain hd) plains_nil))) plains_nil), rfl,
        fun w => wadd_w a b c d ⟨ho (u64B a, true) (by simp), ho (u64B b, true) (by simp), ho (u64B c, true) (by simp), ho (u64B d, true) (by simp)⟩ w⟩
    · cases h
  · cases h
theorem wsubG : PlainOk Tryz.prog 134 oWsub := by
  intro args ds x ds' ob h ho
  unfold oWsub at h
  split at h
  · rename_i x y z u
    split at h
    · rename_i a b c d ha hb hc hd
      simp only [Option.some.injEq, Prod.mk.injEq] at h
      obtain ⟨rfl, rfl, rfl⟩ := h
      exact ⟨[.agg #[.int .u64 a, .int .u64 b], .agg #[.int .u64 c, .int .u64 d]], _, plains_cons (plain_agg (plains_cons (intS_plain ha) (plains_cons (intS_plain hb) plains_nil))) (plains_cons (plain_agg (plains_cons (intS_plain hc) (plains_cons (intS_plain hd) plains_nil))) plains_nil), rfl,
        fun w => wsub_w a b c d ⟨ho (u64B a, true) (by simp), ho (u64B b, true) (by simp), ho (u64B c, true) (by simp), ho (u64B d, true) (by simp)⟩ w⟩
    · cases h
  · cases h
def OG1 : OracleF := lookO [(50, plainO oRight), (69, plainO oParts), (110, plainO oDown), (72, plainO oRound), (133, plainO oWadd), (134, plainO oWsub)]
theorem oracleG1 : OracleOk Tryz.prog OG1 := .cons rightG.of (.cons partsG.of (.cons downG.of (.cons roundG.of (.cons waddG.of (.cons wsubG.of (.nil _))))))
end Go.Proofs.YtlhlcefkmhhmjaaGreat
namespace Go.Proofs.YtlhlcefkmhhmjaaGreat
set_option linter.all false
open Go.RowKit Bu Rx

theorem kParts_R : kParts KR = oParts := rfl
theorem kDown_R : kDown KR = oDown := rfl
theorem kRound_R : kRound KR = oRound := rfl
theorem kWadd_R : kWadd KR = oWadd := rfl
theorem kWsub_R : kWsub KR = oWsub := rfl
def OGK (K : Kd) : OracleF := lookO [(50, plainO oRight), (69, plainO (kParts K)), (110, plainO (kDown K)), (72, plainO (kRound K)), (133, plainO (kWadd K)), (134, plainO (kWsub K))]
theorem oracleGK : OracleOk Tryz.prog (OGK KR) := by
  unfold OGK
  rw [kParts_R, kDown_R, kRound_R, kWadd_R, kWsub_R]
  exact oracleG1
end Go.Proofs.YtlhlcefkmhhmjaaGreat
namespace Go.Proofs.YtlhlcefkmhhmjaaGreat
set_option linter.all false
open Go.RowKit Bu Rx

def kP (K : Kd) (a b : F) (same more up sa : Bool) : SV := .tup [.fl (K.rF sa (hK K same more a b) (lK K same more a b) more (eK K a) up), .si .i64 (K.rI sa (hK K same more a b) (lK K same more a b) more (eK K a) up)]
def gtK (a b : Int) (d : Bool) : Bool × Bool := (decide (a > b), d)
def eqK (a b : Int) (d : Bool) : Bool × Bool := (decide (a = b), d)

theorem addRun (x y a b : F) (up : Bool) {ds : List Bool} {ob : Obs} {same more sa : Bool} (h : valR ((run Tryz.prog EG (OGK KR) 100).1 118 [.fl x, .fl y, .b up] [] (some ds)) = some (kP KR a b same more up sa, some [], ob)) (ho : obsB ob = true)
    (hq : rndG sa (wn (hA same more a b) (lA same more a b)) more (eI a) up = dAdd up x y) (w : World) :
    Calls Tryz.prog 118 #[.float .f64 x.b, .float .f64 y.b, .bool up] w fun e w' => e = .returned (.tuple #[.float .f64 (dAdd up x y).1.b, .int .i64 (dAdd up x y).2]) ∧ Below w.heap.size w w' := by
  rw [← hq]
  exact calls_of_val goodG oracleGK 100 h (ObsOk.of_B ho) rfl rfl w

def ob_far (K : Kd) (x y : F) : Obs := [gtK (K.ex y) (K.ex x) true]
theorem run_far_000 (K : Kd) (x y : F) (up : Bool) : valR ((run Tryz.prog EG (OGK K) 100).1 118 [.fl x, .fl y, .b up] [] (some [false, false, true, false])) = some (kP K y x true false up false, some [], obK K true false y x ++ ob_far K x y ++ [(K.sg y, false), (K.sg x, false)]) := by kernel_rfl
theorem run_far_001 (K : Kd) (x y : F) (up : Bool) : valR ((run Tryz.prog EG (OGK K) 100).1 118 [.fl x, .fl y, .b up] [] (some [false, true, true, false])) = some (kP K y x false false up true, some [], obK K false false y x ++ ob_far K x y ++ [(K.sg y, true), (K.sg x, false)]) := by kernel_rfl
theorem run_far_010 (K : Kd) (x y : F) (up : Bool) : valR ((run Tryz.prog EG (OGK K) 100).1 118 [.fl x, .fl y, .b up] [] (some [true, false, true, false])) = some (kP K y x false false up false, some [], obK K false false y x ++ ob_far K x y ++ [(K.sg y, false), (K.sg x, true)]) := by kernel_rfl
theorem run_far_011 (K : Kd) (x y : F) (up : Bool) : valR ((run Tryz.prog EG (OGK K) 100).1 118 [.fl x, .fl y, .b up] [] (some [true, true, true, false])) = some (kP K y x true false up true, some [], obK K true false y x ++ ob_far K x y ++ [(K.sg y, true), (K.sg x, true)]) := by kernel_rfl
theorem run_far_100 (K : Kd) (x y : F) (up : Bool) : valR ((run Tryz.prog EG (OGK K) 100).1 118 [.fl x, .fl y, .b up] [] (some [false, false, true, true])) = some (kP K y x true true up false, some [], obK K true true y x ++ ob_far K x y ++ [(K.sg y, false), (K.sg x, false)]) := by kernel_rfl
theorem run_far_101 (K : Kd) (x y : F) (up : Bool) : valR ((run Tryz.prog EG (OGK K) 100).1 118 [.fl x, .fl y, .b up] [] (some [false, true, true, true])) = some (kP K y x false true up true, some [], obK K false true y x ++ ob_far K x y ++ [(K.sg y, true), (K.sg x, false)]) := by kernel_rfl
theorem run_far_110 (K : Kd) (x y : F) (up : Bool) : valR ((run Tryz.prog EG (OGK K) 100).1 118 [.fl x, .fl y, .b up] [] (some [true, false, true, true])) = some (kP K y x false true up false, some [], obK K false true y x ++ ob_far K x y ++ [(K.sg y, false), (K.sg x, true)]) := by kernel_rfl
theorem run_far_111 (K : Kd) (x y : F) (up : Bool) : valR ((run Tryz.prog EG (OGK K) 100).1 118 [.fl x, .fl y, .b up] [] (some [true, true, true, true])) = some (kP K y x true true up true, some [], obK K true true y x ++ ob_far K x y ++ [(K.sg y, true), (K.sg x, true)]) := by kernel_rfl
theorem add_far (x y : F) (up : Bool) (h : Fst y x) (ho : obsB (ob_far KR x y) = true) (w : World) :
    Calls Tryz.prog 118 #[.float .f64 x.b, .float .f64 y.b, .bool up] w fun e w' => e = .returned (.tuple #[.float .f64 (dAdd up x y).1.b, .int .i64 (dAdd up x y).2]) ∧ Below w.heap.size w w' := by
  have hv := add_val up h
  rw [dAdd_comm] at hv
  have hk : ∀ same, obsB (obA same (moreN (mn x) (ex y - ex x)) y x) = true := fun same => obA_ok same h
  have hob : ∀ s m p q, obsB (obA s m y x) = true → sg y = q → sg x = p → obsB (obK KR s m y x ++ ob_far KR x y ++ [(KR.sg y, q), (KR.sg x, p)]) = true := by
    intro s m p q h1 h2 h3
    rw [obsB_app, obsB_app, obK_R, h1, ho]
    exact obsB_yes h2 (obsB_yes h3 obsB_nil)
  cases hm : moreN (mn x) (ex y - ex x) <;> cases hx : sg x <;> cases hy : sg y <;> rw [hm] at hk hv <;> rw [hx, hy] at hv
  · exact addRun x y y x up (run_far_000 KR x y up) (hob _ _ _ _ (hk _) hy hx) hv w
  · exact addRun x y y x up (run_far_001 KR x y up) (hob _ _ _ _ (hk _) hy hx) hv w
  · exact addRun x y y x up (run_far_010 KR x y up) (hob _ _ _ _ (hk _) hy hx) hv w
  · exact addRun x y y x up (run_far_011 KR x y up) (hob _ _ _ _ (hk _) hy hx) hv w
  · exact addRun x y y x up (run_far_100 KR x y up) (hob _ _ _ _ (hk _) hy hx) hv w
  · exact addRun x y y x up (run_far_101 KR x y up) (hob _ _ _ _ (hk _) hy hx) hv w
  · exact addRun x y y x up (run_far_110 KR x y up) (hob _ _ _ _ (hk _) hy hx) hv w
  · exact addRun x y y x up (run_far_111 KR x y up) (hob _ _ _ _ (hk _) hy hx) hv w
def ob_low (K : Kd) (x y : F) : Obs := [eqK (K.ex y) (K.ex x) false, gtK (K.ex y) (K.ex x) false]
theorem run_low_000 (K : Kd) (x y : F) (up : Bool) : valR ((run Tryz.prog EG (OGK K) 100).1 118 [.fl x, .fl y, .b up] [] (some [false, false, false, false, false])) = some (kP K x y true false up false, some [], obK K true false x y ++ ob_low K x y ++ [(K.sg y, false), (K.sg x, false)]) := by kernel_rfl
theorem run_low_001 (K : Kd) (x y : F) (up : Bool) : valR ((run Tryz.prog EG (OGK K) 100).1 118 [.fl x, .fl y, .b up] [] (some [false, true, false, false, false])) = some (kP K x y false false up false, some [], obK K false false x y ++ ob_low K x y ++ [(K.sg y, true), (K.sg x, false)]) := by kernel_rfl
theorem run_low_010 (K : Kd) (x y : F) (up : Bool) : valR ((run Tryz.prog EG (OGK K) 100).1 118 [.fl x, .fl y, .b up] [] (some [true, false, false, false, false])) = some (kP K x y false false up true, some [], obK K false false x y ++ ob_low K x y ++ [(K.sg y, false), (K.sg x, true)]) := by kernel_rfl
theorem run_low_011 (K : Kd) (x y : F) (up : Bool) : valR ((run Tryz.prog EG (OGK K) 100).1 118 [.fl x, .fl y, .b up] [] (some [true, true, false, false, false])) = some (kP K x y true false up true, some [], obK K true false x y ++ ob_low K x y ++ [(K.sg y, true), (K.sg x, true)]) := by kernel_rfl
theorem run_low_100 (K : Kd) (x y : F) (up : Bool) : valR ((run Tryz.prog EG (OGK K) 100).1 118 [.fl x, .fl y, .b up] [] (some [false, false, false, false, true])) = some (kP K x y true true up false, some [], obK K true true x y ++ ob_low K x y ++ [(K.sg y, false), (K.sg x, false)]) := by kernel_rfl
theorem run_low_101 (K : Kd) (x y : F) (up : Bool) : valR ((run Tryz.prog EG (OGK K) 100).1 118 [.fl x, .fl y, .b up] [] (some [false, true, false, false, true])) = some (kP K x y false true up false, some [], obK K false true x y ++ ob_low K x y ++ [(K.sg y, true), (K.sg x, false)]) := by kernel_rfl
theorem run_low_110 (K : Kd) (x y : F) (up : Bool) : valR ((run Tryz.prog EG (OGK K) 100).1 118 [.fl x, .fl y, .b up] [] (some [true, false, false, false, true])) = some (kP K x y false true up true, some [], obK K false true x y ++ ob_low K x y ++ [(K.sg y, false), (K.sg x, true)]) := by kernel_rfl
theorem run_low_111 (K : Kd) (x y : F) (up : Bool) : valR ((run Tryz.prog EG (OGK K) 100).1 118 [.fl x, .fl y, .b up] [] (some [true, true, false, false, true])) = some (kP K x y true true up true, some [], obK K true true x y ++ ob_low K x y ++ [(K.sg y, true), (K.sg x, true)]) := by kernel_rfl
theorem add_low (x y : F) (up : Bool) (h : Fst x y) (ho : obsB (ob_low KR x y) = true) (w : World) :
    Calls Tryz.prog 118 #[.float .f64 x.b, .float .f64 y.b, .bool up] w fun e w' => e = .returned (.tuple #[.float .f64 (dAdd up x y).1.b, .int .i64 (dAdd up x y).2]) ∧ Below w.heap.size w w' := by
  have hv := add_val up h
  have hk : ∀ same, obsB (obA same (moreN (mn y) (ex x - ex y)) x y) = true := fun same => obA_ok same h
  have hob : ∀ s m p q, obsB (obA s m x y) = true → sg y = q → sg x = p → obsB (obK KR s m x y ++ ob_low KR x y ++ [(KR.sg y, q), (KR.sg x, p)]) = true := by
    intro s m p q h1 h2 h3
    rw [obsB_app, obsB_app, obK_R, h1, ho]
    exact obsB_yes h2 (obsB_yes h3 obsB_nil)
  cases hm : moreN (mn y) (ex x - ex y) <;> cases hx : sg x <;> cases hy : sg y <;> rw [hm] at hk hv <;> rw [hx, hy] at hv
  · exact addRun x y x y up (run_low_000 KR x y up) (hob _ _ _ _ (hk _) hy hx) hv w
  · exact addRun x y x y up (run_low_001 KR x y up) (hob _ _ _ _ (hk _) hy hx) hv w
  · exact addRun x y x y up (run_low_010 KR x y up) (hob _ _ _ _ (hk _) hy hx) hv w
  · exact addRun x y x y up (run_low_011 KR x y up) (hob _ _ _ _ (hk _) hy hx) hv w
  · exact addRun x y x y up (run_low_100 KR x y up) (hob _ _ _ _ (hk _) hy hx) hv w
  · exact addRun x y x y up (run_low_101 KR x y up) (hob _ _ _ _ (hk _) hy hx) hv w
  · exact addRun x y x y up (run_low_110 KR x y up) (hob _ _ _ _ (hk _) hy hx) hv w
  · exact addRun x y x y up (run_low_111 KR x y up) (hob _ _ _ _ (hk _) hy hx) hv w
def ob_top (K : Kd) (x y : F) : Obs := [gtK (K.mn y) (K.mn x) true, eqK (K.ex y) (K.ex x) true, gtK (K.ex y) (K.ex x) false]
theorem run_top_000 (K : Kd) (x y : F) (up : Bool) : valR ((run Tryz.prog EG (OGK K) 100).1 118 [.fl x, .fl y, .b up] [] (some [false, false, false, true, true, false])) = some (kP K y x true false up false, some [], obK K true false y x ++ ob_top K x y ++ [(K.sg y, false), (K.sg x, false)]) := by kernel_rfl
theorem run_top_001 (K : Kd) (x y : F) (up : Bool) : valR ((run Tryz.prog EG (OGK K) 100).1 118 [.fl x, .fl y, .b up] [] (some [false, true, false, true, true, false])) = some (kP K y x false false up true, some [], obK K false false y x ++ ob_top K x y ++ [(K.sg y, true), (K.sg x, false)]) := by kernel_rfl
theorem run_top_010 (K : Kd) (x y : F) (up : Bool) : valR ((run Tryz.prog EG (OGK K) 100).1 118 [.fl x, .fl y, .b up] [] (some [true, false, false, true, true, false])) = some (kP K y x false false up false, some [], obK K false false y x ++ ob_top K x y ++ [(K.sg y, false), (K.sg x, true)]) := by kernel_rfl
theorem run_top_011 (K : Kd) (x y : F) (up : Bool) : valR ((run Tryz.prog EG (OGK K) 100).1 118 [.fl x, .fl y, .b up] [] (some [true, true, false, true, true, false])) = some (kP K y x true false up true, some [], obK K true false y x ++ ob_top K x y ++ [(K.sg y, true), (K.sg x, true)]) := by kernel_rfl
theorem run_top_100 (K : Kd) (x y : F) (up : Bool) : valR ((run Tryz.prog EG (OGK K) 100).1 118 [.fl x, .fl y, .b up] [] (some [false, false, false, true, true, true])) = some (kP K y x true true up false, some [], obK K true true y x ++ ob_top K x y ++ [(K.sg y, false), (K.sg x, false)]) := by kernel_rfl
theorem run_top_101 (K : Kd) (x y : F) (up : Bool) : valR ((run Tryz.prog EG (OGK K) 100).1 118 [.fl x, .fl y, .b up] [] (some [false, true, false, true, true, true])) = some (kP K y x false true up true, some [], obK K false true y x ++ ob_top K x y ++ [(K.sg y, true), (K.sg x, false)]) := by kernel_rfl
theorem run_top_110 (K : Kd) (x y : F) (up : Bool) : valR ((run Tryz.prog EG (OGK K) 100).1 118 [.fl x, .fl y, .b up] [] (some [true, false, false, true, true, true])) = some (kP K y x false true up false, some [], obK K false true y x ++ ob_top K x y ++ [(K.sg y, false), (K.sg x, true)]) := by kernel_rfl
theorem run_top_111 (K : Kd) (x y : F) (up : Bool) : valR ((run Tryz.prog EG (OGK K) 100).1 118 [.fl x, .fl y, .b up] [] (some [true, true, false, true, true, true])) = some (kP K y x true true up true, some [], obK K true true y x ++ ob_top K x y ++ [(K.sg y, true), (K.sg x, true)]) := by kernel_rfl
theorem add_top (x y : F) (up : Bool) (h : Fst y x) (ho : obsB (ob_top KR x y) = true) (w : World) :
    Calls Tryz.prog 118 #[.float .f64 x.b, .float .f64 y.b, .bool up] w fun e w' => e = .returned (.tuple #[.float .f64 (dAdd up x y).1.b, .int .i64 (dAdd up x y).2]) ∧ Below w.heap.size w w' := by
  have hv := add_val up h
  rw [dAdd_comm] at hv
  have hk : ∀ same, obsB (obA same (moreN (mn x) (ex y - ex x)) y x) = true := fun same => obA_ok same h
  have hob : ∀ s m p q, obsB (obA s m y x) = true → sg y = q → sg x = p → obsB (obK KR s m y x ++ ob_top KR x y ++ [(KR.sg y, q), (KR.sg x, p)]) = true := by
    intro s m p q h1 h2 h3
    rw [obsB_app, obsB_app, obK_R, h1, ho]
    exact obsB_yes h2 (obsB_yes h3 obsB_nil)
  cases hm : moreN (mn x) (ex y - ex x) <;> cases hx : sg x <;> cases hy : sg y <;> rw [hm] at hk hv <;> rw [hx, hy] at hv
  · exact addRun x y y x up (run_top_000 KR x y up) (hob _ _ _ _ (hk _) hy hx) hv w
  · exact addRun x y y x up (run_top_001 KR x y up) (hob _ _ _ _ (hk _) hy hx) hv w
  · exact addRun x y y x up (run_top_010 KR x y up) (hob _ _ _ _ (hk _) hy hx) hv w
  · exact addRun x y y x up (run_top_011 KR x y up) (hob _ _ _ _ (hk _) hy hx) hv w
  · exact addRun x y y x up (run_top_100 KR x y up) (hob _ _ _ _ (hk _) hy hx) hv w
  · exact addRun x y y x up (run_top_101 KR x y up) (hob _ _ _ _ (hk _) hy hx) hv w
  · exact addRun x y y x up (run_top_110 KR x y up) (hob _ _ _ _ (hk _) hy hx) hv w
  · exact addRun x y y x up (run_top_111 KR x y up) (hob _ _ _ _ (hk _) hy hx) hv w
def ob_eq (K : Kd) (x y : F) : Obs := [gtK (K.mn y) (K.mn x) false, eqK (K.ex y) (K.ex x) true, gtK (K.ex y) (K.ex x) false]
theorem run_eq_000 (K : Kd) (x y : F) (up : Bool) : valR ((run Tryz.prog EG (OGK K) 100).1 118 [.fl x, .fl y, .b up] [] (some [false, false, false, true, false, false])) = some (kP K x y true false up false, some [], obK K true false x y ++ ob_eq K x y ++ [(K.sg y, false), (K.sg x, false)]) := by kernel_rfl
theorem run_eq_001 (K : Kd) (x y : F) (up : Bool) : valR ((run Tryz.prog EG (OGK K) 100).1 118 [.fl x, .fl y, .b up] [] (some [false, true, false, true, false, false])) = some (kP K x y false false up false, some [], obK K false false x y ++ ob_eq K x y ++ [(K.sg y, true), (K.sg x, false)]) := by kernel_rfl
theorem run_eq_010 (K : Kd) (x y : F) (up : Bool) : valR ((run Tryz.prog EG (OGK K) 100).1 118 [.fl x, .fl y, .b up] [] (some [true, false, false, true, false, false])) = some (kP K x y false false up true, some [], obK K false false x y ++ ob_eq K x y ++ [(K.sg y, false), (K.sg x, true)]) := by kernel_rfl
theorem run_eq_011 (K : Kd) (x y : F) (up : Bool) : valR ((run Tryz.prog EG (OGK K) 100).1 118 [.fl x, .fl y, .b up] [] (some [true, true, false, true, false, false])) = some (kP K x y true false up true, some [], obK K true false x y ++ ob_eq K x y ++ [(K.sg y, true), (K.sg x, true)]) := by kernel_rfl
theorem run_eq_100 (K : Kd) (x y : F) (up : Bool) : valR ((run Tryz.prog EG (OGK K) 100).1 118 [.fl x, .fl y, .b up] [] (some [false, false, false, true, false, true])) = some (kP K x y true true up false, some [], obK K true true x y ++ ob_eq K x y ++ [(K.sg y, false), (K.sg x, false)]) := by kernel_rfl
theorem run_eq_101 (K : Kd) (x y : F) (up : Bool) : valR ((run Tryz.prog EG (OGK K) 100).1 118 [.fl x, .fl y, .b up] [] (some [false, true, false, true, false, true])) = some (kP K x y false true up false, some [], obK K false true x y ++ ob_eq K x y ++ [(K.sg y, true), (K.sg x, false)]) := by kernel_rfl
theorem run_eq_110 (K : Kd) (x y : F) (up : Bool) : valR ((run Tryz.prog EG (OGK K) 100).1 118 [.fl x, .fl y, .b up] [] (some [true, false, false, true, false, true])) = some (kP K x y false true up true, some [], obK K false true x y ++ ob_eq K x y ++ [(K.sg y, false), (K.sg x, true)]) := by kernel_rfl
theorem run_eq_111 (K : Kd) (x y : F) (up : Bool) : valR ((run Tryz.prog EG (OGK K) 100).1 118 [.fl x, .fl y, .b up] [] (some [true, true, false, true, false, true])) = some (kP K x y true true up true, some [], obK K true true x y ++ ob_eq K x y ++ [(K.sg y, true), (K.sg x, true)]) := by kernel_rfl
theorem add_eq (x y : F) (up : Bool) (h : Fst x y) (ho : obsB (ob_eq KR x y) = true) (w : World) :
    Calls Tryz.prog 118 #[.float .f64 x.b, .float .f64 y.b, .bool up] w fun e w' => e = .returned (.tuple #[.float .f64 (dAdd up x y).1.b, .int .i64 (dAdd up x y).2]) ∧ Below w.heap.size w w' := by
  have hv := add_val up h
  have hk : ∀ same, obsB (obA same (moreN (mn y) (ex x - ex y)) x y) = true := fun same => obA_ok same h
  have hob : ∀ s m p q, obsB (obA s m x y) = true → sg y = q → sg x = p → obsB (obK KR s m x y ++ ob_eq KR x y ++ [(KR.sg y, q), (KR.sg x, p)]) = true := by
    intro s m p q h1 h2 h3
    rw [obsB_app, obsB_app, obK_R, h1, ho]
    exact obsB_yes h2 (obsB_yes h3 obsB_nil)
  cases hm : moreN (mn y) (ex x - ex y) <;> cases hx : sg x <;> cases hy : sg y <;> rw [hm] at hk hv <;> rw [hx, hy] at hv
  · exact addRun x y x y up (run_eq_000 KR x y up) (hob _ _ _ _ (hk _) hy hx) hv w
  · exact addRun x y x y up (run_eq_001 KR x y up) (hob _ _ _ _ (hk _) hy hx) hv w
  · exact addRun x y x y up (run_eq_010 KR x y up) (hob _ _ _ _ (hk _) hy hx) hv w
  · exact addRun x y x y up (run_eq_011 KR x y up) (hob _ _ _ _ (hk _) hy hx) hv w
  · exact addRun x y x y up (run_eq_100 KR x y up) (hob _ _ _ _ (hk _) hy hx) hv w
  · exact addRun x y x y up (run_eq_101 KR x y up) (hob _ _ _ _ (hk _) hy hx) hv w
  · exact addRun x y x y up (run_eq_110 KR x y up) (hob _ _ _ _ (hk _) hy hx) hv w
  · exact addRun x y x y up (run_eq_111 KR x y up) (hob _ _ _ _ (hk _) hy hx) hv w

theorem add_F_w (x y : F) (up : Bool) (w : World) :
    Calls Tryz.prog 118 #[.float .f64 x.b, .float .f64 y.b, .bool up] w fun e w' => e = .returned (.tuple #[.float .f64 (dAdd up x y).1.b, .int .i64 (dAdd up x y).2]) ∧ Below w.heap.size w w' := by
  by_cases h1 : ex x < ex y
  · exact add_far x y up (Or.inl h1) (obsB_yes (decide_eq_true (show (ex y : Int) - 1074 > (ex x : Int) - 1074 by omega)) obsB_nil) w
  · have g1 := decide_eq_false (show ¬ (ex y : Int) - 1074 > (ex x : Int) - 1074 by omega)
    by_cases h2 : ex y = ex x
    · have g2 := decide_eq_true (show (ex y : Int) - 1074 = (ex x : Int) - 1074 by omega)
      by_cases h3 : mn x < mn y
      · exact add_top x y up (Or.inr ⟨h2, by omega⟩) (obsB_yes (decide_eq_true (show ((mn y : Nat) : Int) > ((mn x : Nat) : Int) by omega)) (obsB_yes g2 (obsB_yes g1 obsB_nil))) w
      · exact add_eq x y up (Or.inr ⟨h2.symm, by omega⟩) (obsB_yes (decide_eq_false (show ¬ ((mn y : Nat) : Int) > ((mn x : Nat) : Int) by omega)) (obsB_yes g2 (obsB_yes g1 obsB_nil))) w
    · have g2 := decide_eq_false (show ¬ (ex y : Int) - 1074 = (ex x : Int) - 1074 by omega)
      exact add_low x y up (Or.inl (by omega)) (obsB_yes g2 (obsB_yes g1 obsB_nil)) w
end Go.Proofs.YtlhlcefkmhhmjaaGreat
namespace Go.Proofs.YtlhlcefkmhhmjaaGreat
set_option linter.all false
open Go.RowKit Bu Rx

/-- a function of two numbers and a direction, that tells a number and an error -/
def kTwo (f : Bool → F → F → F × Int) : List SV → Dec → Option (SV × Dec × Obs)
  | [.fl x, .fl y, .b up], ds => some (.tup [.fl (f up x y).1, .si .i64 (f up x y).2], ds, [])
  | _, _ => none
theorem two_ok {g : FuncId} {f : Bool → F → F → F × Int} (h : ∀ x y up w, Calls Tryz.prog g #[.float .f64 x.b, .float .f64 y.b, .bool up] w fun e w' => e = .returned (.tuple #[.float .f64 (f up x y).1.b, .int .i64 (f up x y).2]) ∧ Below w.heap.size w w') : PlainOk Tryz.prog g (kTwo f) := by
  intro args ds x ds' ob h1 ho
  unfold kTwo at h1
  split at h1
  · rename_i x y up
    simp only [Option.some.injEq, Prod.mk.injEq] at h1
    obtain ⟨rfl, _, _⟩ := h1
    exact ⟨[.float .f64 x.b, .float .f64 y.b, .bool up], _, rfl, rfl, fun w => h x y up w⟩
  · cases h1

def OGA (f : Bool → F → F → F × Int) : OracleF := lookO [(50, plainO oRight), (118, plainO (kTwo f))]
theorem oracleGA : OracleOk Tryz.prog (OGA dAdd) := .cons rightG.of (.cons (two_ok add_F_w).of (.nil _))

theorem subRun0 (f : Bool → F → F → F × Int) (x y : F) (up : Bool) : valR ((run Tryz.prog EG (OGA f) 100).1 120 [.fl x, .fl y, .b up] [] (some [false])) = some (.tup [.fl (f up x y).1, .si .i64 (f up x y).2], some [], [(!decide (y.k = (toF 0).k), false)]) := by kernel_rfl
theorem subRun1 (f : Bool → F → F → F × Int) (x y : F) (up : Bool) : valR ((run Tryz.prog EG (OGA f) 100).1 120 [.fl x, .fl y, .b up] [] (some [true])) = some (.tup [.fl (f up x y.neg).1, .si .i64 (f up x y.neg).2], some [], [(!decide (y.k = 0), true), (!decide (y.k = (toF 0).k), true)]) := by kernel_rfl
theorem sub_F_w (x y : F) (up : Bool) (w : World) :
    Calls Tryz.prog 120 #[.float .f64 x.b, .float .f64 y.b, .bool up] w fun e w' => e = .returned (.tuple #[.float .f64 (dSub up x y).1.b, .int .i64 (dSub up x y).2]) ∧ Below w.heap.size w w' := by
  by_cases h : y.k = 0
  · rw [dSub_zero up x y h]
    exact calls_of_val goodG oracleGA 100 (subRun0 dAdd x y up) (ObsOk.of_B (obsB_yes (by rw [zero_k', h]; rfl) obsB_nil)) rfl rfl w
  · rw [dSub_neg]
    have e : (!decide (y.k = 0)) = true := by simp [h]
    exact calls_of_val goodG oracleGA 100 (subRun1 dAdd x y up) (ObsOk.of_B (obsB_yes e (obsB_yes (by rw [zero_k']; exact e) obsB_nil))) rfl rfl w

/-- two words, of a product -/
def kMul (f g : Int → Int → Int) (u : Int → Bool) : List SV → Dec → Option (SV × Dec × Obs)
  | [x, y], ds => match intS x, intS y with
    | some (.u64, a), some (.u64, b) => some (.tup [.si .u64 (f a b), .si .u64 (g a b)], ds, [(u a, true), (u b, true)])
    | _, _ => none
  | _, _ => none
def mulH (a b : Int) : Int := hi (a.toNat * b.toNat)
def mulL (a b : Int) : Int := lo (a.toNat * b.toNat)
theorem mulG : PlainOk Tryz.prog 76 (kMul mulH mulL u64B) := by
  intro args ds x ds' ob h ho
  unfold kMul at h
  split at h
  · rename_i x y
    split at h
    · rename_i a b ha hb
      simp only [Option.some.injEq, Prod.mk.injEq] at h
      obtain ⟨rfl, rfl, rfl⟩ := h
      have k1 := u64_of (ho (u64B a, true) (by simp))
      have k2 := u64_of (ho (u64B b, true) (by simp))
      obtain ⟨p, rfl⟩ := Int.eq_ofNat_of_zero_le k1.1
      obtain ⟨q, rfl⟩ := Int.eq_ofNat_of_zero_le k2.1
      refine ⟨[.int .u64 p, .int .u64 q], _, plains_cons (intS_plain ha) (plains_cons (intS_plain hb) plains_nil), rfl, fun w => (Tryz.bits_Mul64 p q (by omega) (by omega) w).mono ?_⟩
      rintro e w' ⟨rfl, rfl⟩
      exact ⟨rfl, Below.refl _ _⟩
    · cases h
  · cases h
def OGM (K : Kd) (f g : Int → Int → Int) : OracleF := lookO [(50, plainO oRight), (69, plainO (kParts K)), (72, plainO (kRound K)), (76, plainO (kMul f g K.u))]
theorem oracleGM : OracleOk Tryz.prog (OGM KR mulH mulL) := .cons rightG.of (.cons partsG.of (.cons roundG.of (.cons mulG.of (.nil _))))
theorem mulRun (K : Kd) (f g : Int → Int → Int) (x y : F) (up p q : Bool) : valR ((run Tryz.prog EG (OGM K f g) 100).1 48 [.fl x, .fl y, .b up] [] (some [p, q])) =
    some (.tup [.fl (K.rF (p != q) (f (K.mn x) (K.mn y)) (g (K.mn x) (K.mn y)) false (IntKind.i64.wrap (K.ex x + K.ex y)) up), .si .i64 (K.rI (p != q) (f (K.mn x) (K.mn y)) (g (K.mn x) (K.mn y)) false (IntKind.i64.wrap (K.ex x + K.ex y)) up)],
      some [], rdK K (f (K.mn x) (K.mn y)) (g (K.mn x) (K.mn y)) (IntKind.i64.wrap (K.ex x + K.ex y)) ++ [(K.u (K.mn x), true), (K.u (K.mn y), true), (K.sg y, q), (K.sg x, p)]) := by cases p <;> cases q <;> kernel_rfl
theorem hi_u {n : Nat} (h : n < W128) : u64B (hi n) = true := u64_mk (hi_nonneg _) (hi_le _ h)
theorem lo_u (n : Nat) : u64B (lo n) = true := u64_mk (lo_nonneg _) (lo_le _)
theorem wn_back (n : Nat) : wn (hi n) (lo n) = n := by
  unfold wn hi lo
  rw [Int.toNat_natCast, Int.toNat_natCast]
  omega
theorem mn_mul_lt (x y : F) : mn x * mn y < W128 := by
  rw [W128_q]
  exact Nat.mul_lt_mul'' (by have := mn_lt x; omega) (by have := mn_lt y; omega)
theorem mul_F_w (x y : F) (up : Bool) (w : World) :
    Calls Tryz.prog 48 #[.float .f64 x.b, .float .f64 y.b, .bool up] w fun e w' => e = .returned (.tuple #[.float .f64 (dMul up x y).1.b, .int .i64 (dMul up x y).2]) ∧ Below w.heap.size w w' := by
  have h1 := ex_le x
  have h2 := ex_le y
  have he : IntKind.i64.wrap ((ex x : Int) - 1074 + ((ex y : Int) - 1074)) = (ex x : Int) - 1074 + ((ex y : Int) - 1074) := Bu.wrap_small (by omega) (by omega)
  have hH : mulH (KR.mn x) (KR.mn y) = hi (mn x * mn y) := by show hi ((mn x : Int).toNat * (mn y : Int).toNat) = _; rw [Int.toNat_natCast, Int.toNat_natCast]
  have hL : mulL (KR.mn x) (KR.mn y) = lo (mn x * mn y) := by show lo ((mn x : Int).toNat * (mn y : Int).toNat) = _; rw [Int.toNat_natCast, Int.toNat_natCast]
  have hr := mulRun KR mulH mulL x y up (sg x) (sg y)
  rw [show IntKind.i64.wrap (KR.ex x + KR.ex y) = _ from he, hH, hL] at hr
  have hv : rndG (sg x != sg y) (wn (hi (mn x * mn y)) (lo (mn x * mn y))) false ((ex x : Int) - 1074 + ((ex y : Int) - 1074)) up = dMul up x y := by rw [wn_back, rndG_mul]
  rw [← hv]
  refine calls_of_val goodG oracleGM 100 hr (ObsOk.of_B ?_) rfl rfl w
  rw [obsB_app]
  have o1 : obsB (rdK KR (hi (mn x * mn y)) (lo (mn x * mn y)) ((ex x : Int) - 1074 + ((ex y : Int) - 1074))) = true :=
    obsB_yes (hi_u (mn_mul_lt x y)) (obsB_yes (lo_u _) (obsB_yes (decide_eq_true (by omega)) obsB_nil))
  have o2 : obsB [(KR.u (KR.mn x), true), (KR.u (KR.mn y), true), (KR.sg y, sg y), (KR.sg x, sg x)] = true := obsB_yes (mn_u64 x) (obsB_yes (mn_u64 y) (obsB_yes rfl (obsB_yes rfl obsB_nil)))
  rw [o1, o2]; rfl
end Go.Proofs.YtlhlcefkmhhmjaaGreat
