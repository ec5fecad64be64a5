/- The reckoner on the laws of draws. -/
import Derived.Test.YtkgpcnehffiifaaRo
import Derived.Test.YtkgpcnehffiifaaUk
import Derived.Test.YtkgpcnehffiifaaUs
import Derived.Test.YtkgpcnehffiifaaRw
namespace Go.Proofs.Ytkgpcnehffiifaa
set_option linter.all false
open Go.RowKit Bu Rx

def oOf : List SV → Dec → Option (SV × Dec × Obs)
  | [u], ds => match intS u with
    | some (.u64, n) => some (.agg [.fl (unitOf n.toNat).lo, .fl (unitOf n.toNat).hi], ds, [(decide (0 ≤ n ∧ n ≤ 18446744073709551615), true)])
    | _ => none
  | _, _ => none
def oSplit : List SV → Dec → Option (SV × Dec × Obs)
  | [u, .fl x], ds => match intS u with
    | some (.u64, n) => match takeB ds (decide (0 ≤ x.k ∧ x.k ≤ 4607182418800017408)) with
      | some (true, ds1, ob1) => match takeB ds1 (splitF n.toNat x).1 with
        | some (d, ds2, ob2) => some (.tup [.b d, .si .u64 ((splitF n.toNat x).2 : Nat), .i .i64 0], ds2, (decide (0 ≤ n ∧ n ≤ 18446744073709551615), true) :: (ob2 ++ ob1))
        | none => none
      | some (false, ds1, ob1) => some (.tup [.b false, .i .u64 0, .i .i64 2], ds1, (decide (0 ≤ n ∧ n ≤ 18446744073709551615), true) :: ob1)
      | none => none
    | _ => none
  | [u, .f x], ds => match intS u with
    | some (.u64, n) => some (.tup [.b false, .i .u64 0, .i .i64 2], ds, [(decide (0 ≤ n ∧ n ≤ 18446744073709551615), true), (Nat.blt x 18446744073709551616, true), (rightB x, false)])
    | _ => none
  | _, _ => none

def EU : ExtF := lookE []
def OU : OracleF := lookO [(11, plainO oRight), (9, plainO oLdexp), (7, plainO oOf), (12, plainO oSplit), (10, plainO (oConst (.b true)))]
theorem goodU : Rx.Good Try.prog EU   := Rx.Good.of (by kernel_rfl) (by kernel_rfl) (ExtOk.nil _)

theorem rightP : PlainOk Try.prog 11 oRight := by
  intro args ds x ds' ob h ho
  unfold oRight at h
  split at h
  · rename_i x
    simp only [Option.some.injEq, Prod.mk.injEq] at h; obtain ⟨rfl, _, _⟩ := h
    refine ⟨[.float .f64 x.b], .bool true, rfl, rfl, fun w => (right_F_w x w).mono ?_⟩
    rintro e w' ⟨rfl, rfl⟩; exact ⟨rfl, Below.refl _ _⟩
  · rename_i v
    split at h
    · rename_i hb
      simp only [Option.some.injEq, Prod.mk.injEq] at h; obtain ⟨rfl, _, rfl⟩ := h
      have hr := takeB_ok hb ho
      obtain ⟨y, rfl⟩ := F_of_right hr.symm
      refine ⟨[.float .f64 y.b], .bool true, rfl, rfl, fun w => (right_F_w y w).mono ?_⟩
      rintro e w' ⟨rfl, rfl⟩; exact ⟨rfl, Below.refl _ _⟩
    · rename_i o hb
      simp only [Option.some.injEq, Prod.mk.injEq] at h; obtain ⟨rfl, _, rfl⟩ := h
      have hr := takeB_ok hb (ObsOk.right (a := [_]) ho)
      have hlt := Nat.blt_eq.mp (ho _ (List.mem_cons_self ..))
      refine ⟨[.float .f64 v], .bool false, rfl, rfl, fun w => (right_no_w v hlt hr.symm w).mono ?_⟩
      rintro e w' ⟨rfl, rfl⟩; exact ⟨rfl, Below.refl _ _⟩
    · cases h
  · cases h
theorem ldexpP : PlainOk Try.prog 9 oLdexp := by
  intro args ds x ds' ob h ho
  unfold oLdexp at h
  split at h
  · rename_i x n
    split at h
    · rename_i k hk
      simp only [Option.some.injEq, Prod.mk.injEq] at h; obtain ⟨rfl, _, rfl⟩ := h
      have hs := of_decide_eq_true (obs1 ho)
      refine ⟨[.float .f64 x.b, .int .i64 k], .float .f64 (ldF x k).b, plains_cons rfl (plains_cons (intS_plain hk) plains_nil), rfl, fun w => (Ldexp_exact x (ldF x k) k w hs).mono ?_⟩
      rintro e w' ⟨rfl, rfl⟩; exact ⟨rfl, Below.refl _ _⟩
    · cases h
  · cases h
theorem ofP : PlainOk Try.prog 7 oOf := by
  intro args ds x ds' ob h ho
  unfold oOf at h
  split at h
  · rename_i u
    split at h
    · rename_i n hk
      simp only [Option.some.injEq, Prod.mk.injEq] at h; obtain ⟨rfl, _, rfl⟩ := h
      have hs := of_decide_eq_true (obs1 ho)
      obtain ⟨v, rfl⟩ := Int.eq_ofNat_of_zero_le hs.1
      exact ⟨[.int .u64 v], ivV (unitOf v), plains_cons (intS_plain hk) plains_nil, rfl, fun w => unitOf_w v hs.2 w⟩
    · cases h
  · cases h
theorem splitP : PlainOk Try.prog 12 oSplit := by
  intro args ds x ds' ob h ho
  unfold oSplit at h
  split at h
  · rename_i u x
    split at h
    · rename_i n hk
      split at h
      · rename_i ds1 ob1 h1
        split at h
        · rename_i d ds2 ob2 h2
          simp only [Option.some.injEq, Prod.mk.injEq] at h; obtain ⟨rfl, _, rfl⟩ := h
          have hn := of_decide_eq_true (ho _ (List.mem_cons_self ..))
          have ho' : ObsOk (ob2 ++ ob1) := fun p hp => ho p (List.mem_cons_of_mem _ hp)
          have hx := of_decide_eq_true (takeB_ok h1 ho'.right).symm
          have hd := takeB_ok h2 ho'.left
          obtain ⟨v, rfl⟩ := Int.eq_ofNat_of_zero_le hn.1
          refine ⟨[.int .u64 v, .float .f64 x.b], .tuple #[.bool d, .int .u64 ((splitF v x).2 : Int), .int .i64 0], plains_cons (intS_plain hk) (plains_cons rfl plains_nil), rfl, fun w => ?_⟩
          rw [hd]
          exact split_w v hn.2 x hx.1 hx.2 w
        · cases h
      · rename_i ds1 ob1 h1
        simp only [Option.some.injEq, Prod.mk.injEq] at h; obtain ⟨rfl, _, rfl⟩ := h
        have hn := of_decide_eq_true (ho _ (List.mem_cons_self ..))
        have ho' : ObsOk ob1 := fun p hp => ho p (List.mem_cons_of_mem _ hp)
        have hx := of_decide_eq_false (takeB_ok h1 ho').symm
        obtain ⟨v, rfl⟩ := Int.eq_ofNat_of_zero_le hn.1
        refine ⟨[.int .u64 v, .float .f64 x.b], .tuple #[.bool false, .int .u64 0, .int .i64 2], plains_cons (intS_plain hk) (plains_cons rfl plains_nil), rfl, fun w => (split_bad v x (by omega) w).mono ?_⟩
        rintro e w' ⟨rfl, rfl⟩; exact ⟨rfl, Below.refl _ _⟩
      · cases h
    · cases h
  · rename_i u x
    split at h
    · rename_i n hk
      simp only [Option.some.injEq, Prod.mk.injEq] at h; obtain ⟨rfl, _, rfl⟩ := h
      have hn := of_decide_eq_true (ho _ (List.mem_cons_self ..))
      have h1 := Nat.blt_eq.mp (ho (Nat.blt x 18446744073709551616, true) (by simp))
      have h2 := ho (rightB x, false) (by simp)
      obtain ⟨v, rfl⟩ := Int.eq_ofNat_of_zero_le hn.1
      refine ⟨[.int .u64 v, .float .f64 x], .tuple #[.bool false, .int .u64 0, .int .i64 2], plains_cons (intS_plain hk) (plains_cons rfl plains_nil), rfl, fun w => (split_no v x h1 h2 w).mono ?_⟩
      rintro e w' ⟨rfl, rfl⟩; exact ⟨rfl, Below.refl _ _⟩
    · cases h
  · cases h
theorem awakeP : PlainOk Try.prog 10 (oConst (.b true)) := by
  intro args ds x ds' ob h ho
  unfold oConst at h
  split at h
  · simp only [Option.some.injEq, Prod.mk.injEq] at h; obtain ⟨rfl, _, rfl⟩ := h
    exact ⟨[], .bool true, rfl, rfl, fun w => awake_w w⟩
  · cases h
theorem oracleU : OracleOk Try.prog OU :=
  .cons rightP.of (.cons ldexpP.of (.cons ofP.of (.cons splitP.of (.cons awakeP.of (.nil _)))))
end Go.Proofs.Ytkgpcnehffiifaa
