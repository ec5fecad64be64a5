/- Known functions, in plain words: of directed rounding. -/
import Derived.Test.YtiipaicbbmkagaaRy
import Derived.Test.YtiipaicbbmkagaaFq
namespace Rx
set_option linter.all false
open Go Bu

def oRight : List SV → Dec → Option (SV × Dec × Obs)
  | [.fl _], ds => some (.b true, ds, [])
  | [.f w], ds => match takeB ds (rightB w) with
    | some (true, ds', ob) => some (.b true, ds', ob)
    | some (false, ds', ob) => some (.b false, ds', (Nat.blt w 18446744073709551616, true) :: ob)
    | none => none
  | _, _ => none
end Rx
namespace Rx
open Go Bu
/-- a number by a power of two -/
def ldF (x : F) (n : Int) : F := if 0 ≤ n then F.of (flZ (x.z * ((2 ^ n.toNat : Nat) : Int))) else F.of (flZ (x.z / ((2 ^ (-n).toNat : Nat) : Int)))
theorem ldF_eq {x y : F} {n : Int} (h : Sc x y n) : ldF x n = y := by
  unfold Sc at h
  unfold ldF
  by_cases hn : 0 ≤ n
  · rw [if_pos hn, ← h, show (-n).toNat = 0 from by omega]
    simp only [Nat.pow_zero, Int.natCast_one, Int.mul_one]
    unfold F.z
    rw [flZ_nvZ, F.of_self]
  · rw [if_neg hn]
    rw [show n.toNat = 0 from by omega] at h
    simp only [Nat.pow_zero, Int.natCast_one, Int.mul_one] at h
    rw [← h, Int.mul_ediv_cancel _ (by have := Nat.two_pow_pos (-n).toNat; omega)]
    unfold F.z
    rw [flZ_nvZ, F.of_self]
instance (x y : F) (n : Int) : Decidable (Sc x y n) := by unfold Sc; infer_instance
def oLdexp : List SV → Dec → Option (SV × Dec × Obs)
  | [.fl x, n], ds => match intS n with
    | some (.i64, k) => some (.fl (ldF x k), ds, [(decide (Sc x (ldF x k) k), true)])
    | _ => none
  | _, _ => none
/-- a function that answers always the same -/
def oConst (x : SV) : List SV → Dec → Option (SV × Dec × Obs)
  | [], ds => some (x, ds, [])
  | _, _ => none
theorem zero_k' : (toF 0).k = 0 := by decide +kernel
def oFb : List SV → Option (SV × Obs)
  | [.f x] => some (.si .u64 x, [])
  | [.fl x] => some (.si .u64 x.b, [])
  | _ => none
def oFf : List SV → Option (SV × Obs)
  | [.si .u64 n] => some (.f n.toNat, [])
  | [.i .u64 n] => some (.f n.toNat, [])
  | _ => none
def u64B (n : Int) : Bool := decide (0 ≤ n ∧ n ≤ 18446744073709551615)
def oAdd64 : List SV → Option (SV × Obs)
  | [x, y, z] => match intS x, intS y, intS z with
    | some (.u64, a), some (.u64, b), some (.u64, c) => some (.tup [.si .u64 ((a + b + c) % 18446744073709551616), .si .u64 ((a + b + c) / 18446744073709551616)], [(decide (0 ≤ a ∧ 0 ≤ b ∧ 0 ≤ c ∧ c ≤ 1), true)])
    | _, _, _ => none
  | _ => none
def oSub64 : List SV → Option (SV × Obs)
  | [x, y, z] => match intS x, intS y, intS z with
    | some (.u64, a), some (.u64, b), some (.u64, c) => some (.tup [.si .u64 ((a - b - c) % 18446744073709551616), .si .u64 (if a < b + c then 1 else 0)], [(decide (0 ≤ a ∧ 0 ≤ b ∧ 0 ≤ c ∧ c ≤ 1 ∧ a ≤ 18446744073709551615 ∧ b ≤ 18446744073709551615), true)])
    | _, _, _ => none
  | _ => none
end Rx
