/- Roots, rounded: plain. -/
import Derived.Test.YtiipaicbbmkagaaGn
namespace Bu
set_option linter.all false
open Ieee

/-- the greatest whole number whose square is no greater -/
structure IsRoot (n x : Nat) : Prop where
  le : x * x ≤ n
  lt : n < (x + 1) * (x + 1)
theorem IsRoot.mono {n x y : Nat} (h : IsRoot n x) : y ≤ x ↔ y * y ≤ n := by
  constructor
  · intro hy; exact Nat.le_trans (Nat.mul_le_mul hy hy) h.le
  · intro hy
    rcases Nat.lt_or_ge x y with c | c
    · exfalso
      have := Nat.mul_le_mul (show x + 1 ≤ y from c) (show x + 1 ≤ y from c)
      have := h.lt
      omega
    · exact c

/-- after the rounds down to 2^k -/
structure RootAt (n k x : Nat) : Prop where
  dvd : ∃ a, x = a * 2 ^ k ∧ x + 2 ^ k ≤ 18446744073709551616
  le : x * x ≤ n
  lt : n < (x + 2 ^ k) * (x + 2 ^ k)
theorem RootAt.start {n : Nat} (h : n < W128) : RootAt n 64 0 := by
  refine ⟨⟨0, by simp, by decide⟩, by simp, ?_⟩
  have e : (0 + 2 ^ 64) * (0 + 2 ^ 64) = W128 := by decide
  rw [e]; exact h
theorem RootAt.yes {n k x : Nat} (h : RootAt n (k + 1) x) (hx : (x + 2 ^ k) * (x + 2 ^ k) ≤ n) : RootAt n k (x + 2 ^ k) := by
  obtain ⟨⟨a, h1, h2⟩, h3, h4⟩ := h
  have e : (2:Nat) ^ (k + 1) = 2 ^ k + 2 ^ k := by rw [Nat.pow_succ]; omega
  rw [e] at h1 h2 h4
  refine ⟨⟨2 * a + 1, ?_, by omega⟩, hx, ?_⟩
  · rw [h1, ← Nat.two_mul, Nat.add_mul, Nat.one_mul]; ac_rfl
  · rw [Nat.add_assoc]; exact h4
theorem RootAt.no {n k x : Nat} (h : RootAt n (k + 1) x) (hx : ¬ (x + 2 ^ k) * (x + 2 ^ k) ≤ n) : RootAt n k x := by
  obtain ⟨⟨a, h1, h2⟩, h3, h4⟩ := h
  have e : (2:Nat) ^ (k + 1) = 2 ^ k + 2 ^ k := by rw [Nat.pow_succ]; omega
  rw [e] at h1 h2 h4
  have hp := pow_pos' k
  refine ⟨⟨2 * a, ?_, ?_⟩, h3, Nat.not_le.1 hx⟩
  · rw [h1, ← Nat.two_mul]; ac_rfl
  · omega
theorem RootAt.done {n x : Nat} (h : RootAt n 0 x) : IsRoot n x := ⟨h.le, by have := h.lt; simpa using this⟩

/-- round for round -/
def rootB (n : Nat) : Nat → Nat → Nat
  | 0, x => x
  | k + 1, x => if (x + 2 ^ k) * (x + 2 ^ k) ≤ n then rootB n k (x + 2 ^ k) else rootB n k x
theorem rootB_ok {n : Nat} : ∀ (k x : Nat), RootAt n k x → IsRoot n (rootB n k x)
  | 0, _, h => h.done
  | k + 1, x, h => by
    unfold rootB
    split
    · rename_i c; exact rootB_ok k _ (h.yes c)
    · rename_i c; exact rootB_ok k _ (h.no c)
def root64 (n : Nat) : Nat := rootB n 64 0
theorem root64_ok {n : Nat} (h : n < W128) : IsRoot n (root64 n) := rootB_ok 64 0 (RootAt.start h)

/-- of a number above 0: what stands in 128 bits, and by which power of two -/
def sqO (a : F) : Bool := decide (((ex a : Int) - 1074 - nlz (mn a) - 64) % 2 ≠ 0)
def sqN (a : F) : Nat := if sqO a then divM a * 9223372036854775808 else divM a * 18446744073709551616
def sqE (a : F) : Int := if sqO a then (ex a : Int) - 1074 - nlz (mn a) - 63 else (ex a : Int) - 1074 - nlz (mn a) - 64
theorem sqE_even (a : F) : sqE a % 2 = 0 := by
  unfold sqE sqO
  split <;> rename_i c <;> simp at c <;> omega
/-- the root, rounded -/
def dSqrt (up : Bool) (a : F) : F × Int := rndG false (root64 (sqN a)) (decide (root64 (sqN a) * root64 (sqN a) ≠ sqN a)) (sqE a / 2) up
end Bu
