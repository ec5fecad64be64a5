/- The document's answers on draws: Of, Half, Split. -/
import Derived.Test.YtmhhopfffeijnaaGreatUt4
namespace Go.Proofs.YtmhhopfffeijnaaGreat
set_option linter.all false
open Go.RowKit Bu Rx

def oPart : List SV → Dec → Option (SV × Dec × Obs)
  | [u, b], ds => match intS u, intS b with
    | some (.u64, n), some (.u64, k) => some (.si .u64 ((n.toNat * 18446744073709551616 / k.toNat : Nat) : Int), ds, [(decide (0 ≤ n ∧ n < k ∧ k ≤ 18446744073709551615), true)])
    | _, _ => none
  | _, _ => none
def oTop : List SV → Dec → Option (SV × Dec × Obs)
  | [u], ds => match intS u with
    | some (.u64, n) => match takeB ds (decide (n.toNat % 2 ^ unitCut n.toNat ≠ 0)) with
      | some (d, ds', ob) => some (.tup [.fl (F.dy (n.toNat / 2 ^ unitCut n.toNat) (unitCut n.toNat)), .b d], ds', (decide (0 ≤ n ∧ n ≤ 18446744073709551615), true) :: ob)
      | none => none
    | _ => none
  | _, _ => none
def oNxt : List SV → Dec → Option (SV × Dec × Obs)
  | [.fl x, .f y], ds => if Nat.beq y 9218868437227405312 then some (.fl (F.of (x.k + 1)), ds, [(decide (0 ≤ x.k ∧ x.k + 1 < (T : Int)), true)]) else none
  | _, _ => none
theorem topP : PlainOk Tryz.prog 119 oTop := by
  intro args ds x ds' ob h ho
  unfold oTop at h
  split at h
  · rename_i u
    split at h
    · rename_i n hn
      split at h
      · rename_i d ds1 ob1 h1
        simp only [Option.some.injEq, Prod.mk.injEq] at h; obtain ⟨rfl, _, rfl⟩ := h
        have hs := of_decide_eq_true (ho _ (List.mem_cons_self ..))
        have ho' : ObsOk ob1 := fun p hp => ho p (List.mem_cons_of_mem _ hp)
        obtain ⟨p, rfl⟩ := Int.eq_ofNat_of_zero_le hs.1
        have hd := takeB_ok h1 ho'
        simp only [Int.toNat_natCast] at hd ⊢
        refine ⟨[.int .u64 p], .tuple #[.float .f64 (F.dy (p / 2 ^ unitCut p) (unitCut p)).b, .bool d], plains_cons (intS_plain hn) plains_nil, rfl, fun w => ?_⟩
        rw [hd]
        exact top_w p hs.2 w
      · cases h
    · cases h
  · cases h
theorem nxtP : PlainOk Tryz.prog 182 oNxt := by
  intro args ds x ds' ob h ho
  unfold oNxt at h
  split at h
  · rename_i x y
    split at h
    · rename_i hy
      have := Nat.eq_of_beq_eq_true hy
      subst this
      simp only [Option.some.injEq, Prod.mk.injEq] at h; obtain ⟨rfl, _, rfl⟩ := h
      have hs := of_decide_eq_true (obs1 ho)
      exact ⟨[.float .f64 x.b, .float .f64 9218868437227405312], .float .f64 (F.of (x.k + 1)).b, rfl, rfl, fun w => nextafter_w x hs.1 hs.2 w⟩
    · cases h
  · cases h
theorem rldP : PlainOk Tryz.prog 105 oLdexp := by
  intro args ds x ds' ob h ho
  unfold oLdexp at h
  split at h
  · rename_i x n
    split at h
    · rename_i k hk
      simp only [Option.some.injEq, Prod.mk.injEq] at h; obtain ⟨rfl, _, rfl⟩ := h
      have hs := of_decide_eq_true (obs1 ho)
      refine ⟨[.float .f64 x.b, .int .i64 k], .float .f64 (ldF x k).b, plains_cons rfl (plains_cons (intS_plain hk) plains_nil), rfl, fun w => (Ldexp_exact x (ldF x k) k w hs).mono ?_⟩
      rintro e w' ⟨rfl, rfl⟩; exact ⟨rfl, Below.refl _ _⟩
    · cases h
  · cases h
def OV1 : OracleF := lookO [(97, plainO oRight), (182, plainO oNxt), (166, plainO oInf), (119, plainO oTop), (105, plainO oLdexp)]
theorem oracleV1 : OracleOk Tryz.prog OV1 := .cons rRightP.of (.cons nxtP.of (.cons infP.of (.cons topP.of (.cons rldP.of (.nil _)))))

/-! ## Of -/
theorem of_k1 {x : F} (h0 : 0 ≤ x.k) (h1 : x.k + 1 < (T : Int)) : (F.of (x.k + 1)).k = x.k + 1 := F.of_k (by omega)
theorem next_of {x : F} (h0 : 0 ≤ x.k) (h1 : x.k + 1 < (T : Int)) : (nextF x true).1 = F.of (x.k + 1) := by
  unfold nextF outUp
  rw [if_pos rfl, if_neg (by omega)]
  show F.of (max (x.k + 1) (1 - T)) = _
  rw [show max (x.k + 1) (1 - (T : Int)) = x.k + 1 from by omega]

theorem rOf_w (n : Nat) (hn : (n : Int) ≤ 18446744073709551615) (w : World) :
    Calls Tryz.prog 43 #[.int .u64 n] w fun e w' => e = .returned (.agg #[.float .f64 (unitOf n).lo.b, .float .f64 (unitOf n).hi.b]) ∧ Below w.heap.size w w' := by
  obtain ⟨g1, g2, g3⟩ := unit_m n (by omega)
  have hT := T_num
  obtain ⟨lo, hi, nx, X, N, fp⟩ := unit_facts n (by omega)
  have hlo : (unitOf n).lo = unitLo n := rfl
  have hlk : 0 ≤ (unitLo n).k ∧ (unitLo n).k < 4607182418800017408 := by
    rw [← hlo, fp.of]; exact ⟨fp.lo, fp.lt⟩
  have hm2 : n / 2 ^ unitCut n ≤ 2 * Bu.P := by omega
  have hsc : Sc (F.dy (n / 2 ^ unitCut n) (unitCut n)) (unitLo n) (-64) := by
    have hb := blen_2P hm2
    have z1 := dy_z hm2 (show -1074 ≤ (unitCut n : Int) by omega) (by omega)
    have z2 := dy_z hm2 (show -1074 ≤ (unitCut n : Int) - 64 by omega) (by omega)
    unfold Sc
    unfold unitLo
    rw [z1, z2, show (-(-64 : Int)).toNat = 64 from rfl, show (-64 : Int).toNat = 0 from rfl, Nat.pow_zero, Int.natCast_one, Int.mul_one, ← Int.natCast_mul, Nat.mul_assoc, ← Nat.pow_add]
    congr 3
    omega
  have hld : ldF (F.dy (n / 2 ^ unitCut n) (unitCut n)) (-64) = unitLo n := ldF_eq hsc
  have e0 := zero_k'
  have hr : decide (0 ≤ (n : Int) ∧ (n : Int) ≤ 18446744073709551615) = true := decide_eq_true ⟨by omega, hn⟩
  by_cases c : n % 2 ^ unitCut n = 0
  · have hof : unitOf n = ⟨unitLo n, unitLo n⟩ := by unfold unitOf; rw [if_pos c]
    rw [hof]
    rw [← hld]
    have := calls_of_run goodG oracleV1 80 (g := 43) (args := [.si .u64 n]) (ds := some [false]) (x := .agg [.fl (ldF (F.dy ((n : Int).toNat / 2 ^ unitCut (n : Int).toNat) (unitCut (n : Int).toNat)) (-64)), .fl (ldF (F.dy ((n : Int).toNat / 2 ^ unitCut (n : Int).toNat) (unitCut (n : Int).toNat)) (-64))])
      (M' := [⟨24, [.fl (ldF (F.dy ((n : Int).toNat / 2 ^ unitCut (n : Int).toNat) (unitCut (n : Int).toNat)) (-64)), .fl (ldF (F.dy ((n : Int).toNat / 2 ^ unitCut (n : Int).toNat) (unitCut (n : Int).toNat)) (-64))]⟩]) (ds' := some [])
      (ob := [(decide (Sc (F.dy ((n : Int).toNat / 2 ^ unitCut (n : Int).toNat) (unitCut (n : Int).toNat)) (ldF (F.dy ((n : Int).toNat / 2 ^ unitCut (n : Int).toNat) (unitCut (n : Int).toNat)) (-64)) (-64)), true), (decide (0 ≤ (n : Int) ∧ (n : Int) ≤ 18446744073709551615), true), (decide ((n : Int).toNat % 2 ^ unitCut (n : Int).toNat ≠ 0), false)]) (by kernel_rfl) (ObsOk.of_B ?_) rfl rfl w
    · simpa only [Int.toNat_natCast] using this
    · have h1 : decide (n % 2 ^ unitCut n ≠ 0) = false := decide_eq_false (by simpa using c)
      simp only [obsB, List.all_cons, List.all_nil, Int.toNat_natCast, hld, decide_eq_true hsc, hr, h1, beq_self_eq_true, Bool.and_self]
  · have hof : unitOf n = ⟨unitLo n, F.of ((unitLo n).k + 1)⟩ := by unfold unitOf; rw [if_neg c, next_of hlk.1 (by omega)]
    rw [hof]
    rw [← hld]
    have := calls_of_run goodG oracleV1 80 (g := 43) (args := [.si .u64 n]) (ds := some [true, false]) (x := .agg [.fl (ldF (F.dy ((n : Int).toNat / 2 ^ unitCut (n : Int).toNat) (unitCut (n : Int).toNat)) (-64)), .fl (F.of ((ldF (F.dy ((n : Int).toNat / 2 ^ unitCut (n : Int).toNat) (unitCut (n : Int).toNat)) (-64)).k + 1))])
      (M' := [⟨24, [.fl (ldF (F.dy ((n : Int).toNat / 2 ^ unitCut (n : Int).toNat) (unitCut (n : Int).toNat)) (-64)), .fl (F.of ((ldF (F.dy ((n : Int).toNat / 2 ^ unitCut (n : Int).toNat) (unitCut (n : Int).toNat)) (-64)).k + 1))]⟩]) (ds' := some [])
      (ob := [(decide ((F.of ((ldF (F.dy ((n : Int).toNat / 2 ^ unitCut (n : Int).toNat) (unitCut (n : Int).toNat)) (-64)).k + 1)).k = (toF 0).k), false), (decide (0 ≤ (ldF (F.dy ((n : Int).toNat / 2 ^ unitCut (n : Int).toNat) (unitCut (n : Int).toNat)) (-64)).k ∧ (ldF (F.dy ((n : Int).toNat / 2 ^ unitCut (n : Int).toNat) (unitCut (n : Int).toNat)) (-64)).k + 1 < (T : Int)), true),
        (decide (Sc (F.dy ((n : Int).toNat / 2 ^ unitCut (n : Int).toNat) (unitCut (n : Int).toNat)) (ldF (F.dy ((n : Int).toNat / 2 ^ unitCut (n : Int).toNat) (unitCut (n : Int).toNat)) (-64)) (-64)), true), (decide (0 ≤ (n : Int) ∧ (n : Int) ≤ 18446744073709551615), true), (decide ((n : Int).toNat % 2 ^ unitCut (n : Int).toNat ≠ 0), true)]) (by kernel_rfl) (ObsOk.of_B ?_) rfl rfl w
    · simpa only [Int.toNat_natCast] using this
    · have h1 : decide (n % 2 ^ unitCut n ≠ 0) = true := decide_eq_true c
      have h2 : decide (0 ≤ (unitLo n).k ∧ (unitLo n).k + 1 < (T : Int)) = true := decide_eq_true ⟨hlk.1, by omega⟩
      have h3 : decide ((F.of ((unitLo n).k + 1)).k = 0) = false := decide_eq_false (by rw [F.of_k (by omega)]; omega)
      simp only [obsB, List.all_cons, List.all_nil, Int.toNat_natCast, hld, decide_eq_true hsc, hr, h1, h2, h3, e0, beq_self_eq_true, Bool.and_self]
end Go.Proofs.YtmhhopfffeijnaaGreat
