/- Sine and cosine of all parts of a turn: by polynomials of a great degree, and two pi to 1200 places. Sine and cosine of all parts of a turn: enclosed, and by their course. Sine and cosine of an interval: what is told of it holds of each of its numbers. Sine and cosine, turned by the half of a turn, and about it. The addition of angles, for the polynomials that stand for sine and cosine; twice an angle. -/
import Derived.Test.YtlhlcefkmhhmjaaGreatZ14
namespace Bu
set_option linter.all false
open Rx Go

/-- 2 pi by 2^1200 -/
def Pn : Nat := 108186897132336501671189860107232812037024433449904255453032105652401399556415295650447645426109615791663852440790611725924098289051411293803597627783628992875781606797142447809002113722624038763429614362603269598492528372534912389940320599010908750142146048896834994846123892403256342974379471121410587286956157952799680419334352518886024445597522707822381433898
def P2 : Rat := (Pn : Rat) / ((2 ^ 1200 : Nat) : Rat)
def dsL : Nat → List Rat
  | 0 => []
  | n + 1 => (((2 * n + 2) * (2 * n + 3) : Nat) : Rat) :: dsL n
def dcL : Nat → List Rat
  | 0 => []
  | n + 1 => (((2 * n + 1) * (2 * n + 2) : Nat) : Rat) :: dcL n
/-- sine by its angle, cosine; of the angle's square -/
def hs (y : Rat) : Rat := nestR y (dsL 150) 1
def hc (y : Rat) : Rat := nestR y (dcL 150) 1
def sQ (z : Rat) : Rat := z * hs (z * z)
def cQ (z : Rat) : Rat := hc (z * z)
structure An (z : Rat) : Prop where
  lo : -(101 / 128) ≤ z
  hi : z ≤ 101 / 128
/-- at an eighth both are the same, but for next to nothing -/
def eps : Rat := 1 / ((2 ^ 1150 : Nat) : Rat)
set_option maxRecDepth 100000 in
theorem eighth : decide (sQ (P2 / 8) ≤ cQ (P2 / 8) + eps ∧ cQ (P2 / 8) ≤ sQ (P2 / 8) + eps) = true := by decide +kernel
end Bu
namespace Bu
set_option linter.all false
open Rx Go

theorem eps_pos : 0 < eps := by
  have h : decide (0 < eps) = true := by decide +kernel
  exact of_decide_eq_true h
end Bu
namespace Bu
set_option linter.all false
open Rx Go

end Bu
namespace Bu
set_option linter.all false
open Rx Go

/-- near, but for next to nothing -/
structure Nx (a b : Rat) : Prop where
  le : a ≤ b + eps
  ge : b ≤ a + eps
theorem Nx.refl {a b : Rat} (h : a = b) : Nx a b := by have := eps_pos; subst h; exact ⟨by grind, by grind⟩
end Bu
namespace Bu
set_option linter.all false
open Rx Go

/-- t^n by n! -/
def TT (t : Rat) : Nat → Rat
  | 0 => 1
  | n + 1 => TT t n * t / ((n + 1 : Nat) : Rat)
/-- of the first n -/
def sm (f : Nat → Rat) : Nat → Rat
  | 0 => 0
  | n + 1 => sm f n + f n
def cv (a b : Rat) (n : Nat) : Rat := sm (fun i => TT a i * TT b (n - i)) (n + 1)
/-- of 1, i, -1, -i .. -/
def rs : Nat → Rat × Rat
  | 0 => (1, 0)
  | n + 1 => (-(rs n).2, (rs n).1)
def ro (n : Nat) : Rat := (rs n).1
/-- within so much about 0 -/
structure Ab (x d : Rat) : Prop where
  lo : -d ≤ x
  hi : x ≤ d
theorem Ab.mul {x y d e : Rat} (h : Ab x d) (k : Ab y e) : Ab (x * y) (d * e) := by
  have a := h.lo; have b := h.hi; have a2 := k.lo; have b2 := k.hi
  have k1 := Rat.mul_nonneg (show 0 ≤ d - x by grind) (show 0 ≤ e - y by grind)
  have k2 := Rat.mul_nonneg (show 0 ≤ d - x by grind) (show 0 ≤ e + y by grind)
  have k3 := Rat.mul_nonneg (show 0 ≤ d + x by grind) (show 0 ≤ e - y by grind)
  have k4 := Rat.mul_nonneg (show 0 ≤ d + x by grind) (show 0 ≤ e + y by grind)
  exact ⟨by grind, by grind⟩
theorem Ab.nn {x d : Rat} (h : Ab x d) : 0 ≤ d := by have a := h.lo; have b := h.hi; grind
/-- next to nothing, by far -/
def dl : Rat := 1 / ((2 ^ 1160 : Nat) : Rat)
theorem An.ab {z : Rat} (h : An z) : Ab z 2 := ⟨by have := h.lo; grind, by have := h.hi; grind⟩
end Bu
