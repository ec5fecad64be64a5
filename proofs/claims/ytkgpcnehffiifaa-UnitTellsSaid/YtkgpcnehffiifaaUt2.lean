/- The document's answers on draws: what is left, bit by bit. -/
import Derived.Test.YtkgpcnehffiifaaUt
namespace Go.Proofs.Ytkgpcnehffiifaa
set_option linter.all false
open Go.RowKit Bu Rx

structure PartI (u b k v z : Nat) : Prop where
  lt : v < b
  eq : u * 2 ^ k = z * b + v
  zl : z < 2 ^ k
theorem part_step {u b k v z : Nat} (h : PartI u b k v z) : (b - v ≤ v → PartI u b (k + 1) (v - (b - v)) (2 * z + 1)) ∧ (v < b - v → PartI u b (k + 1) (2 * v) (2 * z)) := by
  have h1 := h.lt
  have h2 := h.eq
  have h3 := h.zl
  refine ⟨fun c => ⟨by omega, ?_, by rw [Nat.pow_succ]; omega⟩, fun c => ⟨by omega, ?_, by rw [Nat.pow_succ]; omega⟩⟩
  · rw [Nat.pow_succ, ← Nat.mul_assoc, h2, Nat.add_mul (2 * z) 1 b, Nat.mul_assoc 2 z b]; omega
  · rw [Nat.pow_succ, ← Nat.mul_assoc, h2, Nat.mul_assoc 2 z b]; omega
theorem part_end {u b v z : Nat} (h : PartI u b 64 v z) : z = u * 18446744073709551616 / b := by
  have h1 := h.lt
  have h2 := h.eq
  have e : (2 : Nat) ^ 64 = 18446744073709551616 := by decide
  rw [e] at h2
  rw [h2, Nat.mul_comm z b, Nat.mul_add_div (by omega), Nat.div_eq_of_lt h1]; omega
structure Small64 (b : Nat) : Prop where
  out : (b : Int) ≤ 18446744073709551615
theorem z_small {u b k v z : Nat} (h : PartI u b k v z) (hk : k < 64) : (z : Int) * 2 + 1 ≤ 18446744073709551615 := by
  have h3 := h.zl
  have : 2 ^ k ≤ 2 ^ 63 := Nat.pow_le_pow_right (by omega) (by omega)
  have e : (2 : Nat) ^ 63 = 9223372036854775808 := by decide
  omega

set_option maxHeartbeats 1000000 in
set_option maxRecDepth 100000 in
theorem part_w (u b : Nat) (hu : u < b) (hb : (b : Int) ≤ 18446744073709551615) (w : World) :
    Calls Try.prog 29 #[.int .u64 u, .int .u64 b] w fun e w' => e = .returned (.int .u64 ((u * 18446744073709551616 / b : Nat) : Int)) ∧ w = w' := by
  have H0 := Lib.hid (show PartI u b 0 u 0 from ⟨hu, by omega, by decide⟩)
  have HB := Lib.hid hb
  have HU := Lib.hid hu
  clear hu hb
  go_enter Try.func29, Try.ntmps29
  go_wp2
  go_loop [0, 5, 6] (fun ui q i => ∃ k v z : Nat, k ≤ 64 ∧ i = .int .i64 k ∧ ui = .int .u64 v ∧ q = .int .u64 z ∧ PartI u b k v z) (fun _ _ i => 64 - (intOf i).toNat)
  case atStart => exact ⟨0, u, 0, by omega, rfl, rfl, rfl, H0.out⟩
  case round =>
    obtain ⟨k, v, z, hk, rfl, rfl, rfl, hp⟩ := hrel
    have HP := Lib.hid hp
    have hlt := hp.lt
    clear hp
    by_cases hk2 : k < 64
    · have hz := z_small HP.out hk2
      have hbb := HB.out
      have wr : ∀ x : Int, 0 ≤ x → x ≤ 18446744073709551615 → IntKind.u64.wrap x = x := fun x h1 h2 => by rw [IntKind.wrap_u64]; omega
      have w1 := wr ((b : Int) - v) (by omega) (by omega)
      have w4 := wr ((z : Int) * 2) (by omega) (by omega)
      by_cases c : b - v ≤ v
      · have HN := Lib.hid ((part_step HP.out).1 c)
        have t1 : ((b : Int) - v) ≤ v := by omega
        have w2 := wr ((v : Int) - (b - v)) (by omega) (by omega)
        have w5 := wr ((z : Int) * 2 + 1) (by omega) (by omega)
        have HC := Lib.hid c
        clear hz hbb wr hlt HB HU H0 c
        go_wp2
        go_round
        case rel => exact ⟨k + 1, v - (b - v), 2 * z + 1, by omega, by go_num, by have := HC.out; have := HP.out.lt; congr 1; omega, by congr 1; omega, HN.out⟩
        case measure => simp [intOf]; omega
      · have HN := Lib.hid ((part_step HP.out).2 (by omega))
        have t1 : ¬ ((b : Int) - v) ≤ v := by omega
        have w2 := wr ((v : Int) * 2) (by omega) (by omega)
        clear hz hbb wr hlt HB HU H0 c
        go_wp2
        go_round
        case rel => exact ⟨k + 1, 2 * v, 2 * z, by omega, by go_num, by congr 1; omega, by congr 1; omega, HN.out⟩
        case measure => simp [intOf]; omega
    · obtain rfl : k = 64 := by omega
      have HZ := Lib.hid (part_end HP.out)
      go_wp2
      go_ret
      exact ⟨ret_int (by rw [HZ.out]; simp), rfl⟩
end Go.Proofs.Ytkgpcnehffiifaa
