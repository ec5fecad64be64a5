/- The document's answers on draws: what is left, bit by bit. -/
import Derived.Test.YtmhhopfffeijnaaGreatUt
import Derived.Test.YtmhhopfffeijnaaGreatIj
import Derived.Test.YtmhhopfffeijnaaGreatFx
namespace Go.Proofs.YtmhhopfffeijnaaGreat
set_option linter.all false
open Go.RowKit Bu Rx

structure PartI (u b k v z : Nat) : Prop where
  lt : v < b
  eq : u * 2 ^ k = z * b + v
  zl : z < 2 ^ k
theorem part_step {u b k v z : Nat} (h : PartI u b k v z) : (b - v ≤ v → PartI u b (k + 1) (v - (b - v)) (2 * z + 1)) ∧ (v < b - v → PartI u b (k + 1) (2 * v) (2 * z)) := by
  have h1 := h.lt
  have h2 := h.eq
  have h3 := h.zl
  refine ⟨fun c => ⟨by omega, ?_, by rw [Nat.pow_succ]; omega⟩, fun c => ⟨by omega, ?_, by rw [Nat.pow_succ]; omega⟩⟩
  · rw [Nat.pow_succ, ← Nat.mul_assoc, h2, Nat.add_mul (2 * z) 1 b, Nat.mul_assoc 2 z b]; omega
  · rw [Nat.pow_succ, ← Nat.mul_assoc, h2, Nat.mul_assoc 2 z b]; omega
theorem part_end {u b v z : Nat} (h : PartI u b 64 v z) : z = u * 18446744073709551616 / b := by
  have h1 := h.lt
  have h2 := h.eq
  have e : (2 : Nat) ^ 64 = 18446744073709551616 := by decide
  rw [e] at h2
  rw [h2, Nat.mul_comm z b, Nat.mul_add_div (by omega), Nat.div_eq_of_lt h1]; omega
structure Small64 (b : Nat) : Prop where
  out : (b : Int) ≤ 18446744073709551615
theorem z_small {u b k v z : Nat} (h : PartI u b k v z) (hk : k < 64) : (z : Int) * 2 + 1 ≤ 18446744073709551615 := by
  have h3 := h.zl
  have : 2 ^ k ≤ 2 ^ 63 := Nat.pow_le_pow_right (by omega) (by omega)
  have e : (2 : Nat) ^ 63 = 9223372036854775808 := by decide
  omega

end Go.Proofs.YtmhhopfffeijnaaGreat
