/- Known functions, in plain words: of directed rounding. -/
import Derived.Test.YtkgpcnehffiifaaRy
import Derived.Test.YtkgpcnehffiifaaFq
namespace Rx
set_option linter.all false
open Go Bu

def oRight : List SV → Dec → Option (SV × Dec × Obs)
  | [.fl _], ds => some (.b true, ds, [])
  | [.f w], ds => match takeB ds (rightB w) with
    | some (true, ds', ob) => some (.b true, ds', ob)
    | some (false, ds', ob) => some (.b false, ds', (Nat.blt w 18446744073709551616, true) :: ob)
    | none => none
  | _, _ => none
end Rx
namespace Rx
open Go Bu
/-- a number by a power of two -/
def ldF (x : F) (n : Int) : F := if 0 ≤ n then F.of (flZ (x.z * ((2 ^ n.toNat : Nat) : Int))) else F.of (flZ (x.z / ((2 ^ (-n).toNat : Nat) : Int)))
theorem ldF_eq {x y : F} {n : Int} (h : Sc x y n) : ldF x n = y := by
  unfold Sc at h
  unfold ldF
  by_cases hn : 0 ≤ n
  · rw [if_pos hn, ← h, show (-n).toNat = 0 from by omega]
    simp only [Nat.pow_zero, Int.natCast_one, Int.mul_one]
    unfold F.z
    rw [flZ_nvZ, F.of_self]
  · rw [if_neg hn]
    rw [show n.toNat = 0 from by omega] at h
    simp only [Nat.pow_zero, Int.natCast_one, Int.mul_one] at h
    rw [← h, Int.mul_ediv_cancel _ (by have := Nat.two_pow_pos (-n).toNat; omega)]
    unfold F.z
    rw [flZ_nvZ, F.of_self]
instance (x y : F) (n : Int) : Decidable (Sc x y n) := by unfold Sc; infer_instance
def oLdexp : List SV → Dec → Option (SV × Dec × Obs)
  | [.fl x, n], ds => match intS n with
    | some (.i64, k) => some (.fl (ldF x k), ds, [(decide (Sc x (ldF x k) k), true)])
    | _ => none
  | _, _ => none
/-- a function that answers always the same -/
def oConst (x : SV) : List SV → Dec → Option (SV × Dec × Obs)
  | [], ds => some (x, ds, [])
  | _, _ => none
theorem zero_k' : (toF 0).k = 0 := by decide +kernel
end Rx
