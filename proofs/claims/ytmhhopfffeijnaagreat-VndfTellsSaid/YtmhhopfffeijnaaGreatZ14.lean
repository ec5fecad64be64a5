/- Sine and cosine of all parts of a turn: by polynomials of a great degree, and two pi to 1200 places. Sine and cosine of all parts of a turn: enclosed, and by their course. Sine and cosine of an interval: what is told of it holds of each of its numbers. Sine and cosine, turned by the half of a turn, and about it. The addition of angles, for the polynomials that stand for sine and cosine; twice an angle. The nearest sum, and difference: as rounding. TrigParts, plain: how far a part's sine and cosine reach; numbers that are turned exactly. A number of an interval, by parts of 2^16 (Between); what TrigParts asks. TrigParts, plain: what is asked of sums, parts, turns. TrigHalves, plain: numbers doubled; the double angle by intervals. -/
import Derived.Test.YtmhhopfffeijnaaGreatZ06
import Derived.Test.YtmhhopfffeijnaaGreatZ01
import Derived.Test.YtmhhopfffeijnaaGreatZ07
namespace Bu
set_option linter.all false
open Rx Go

/-- 2 pi by 2^1200 -/
def Pn : Nat := 108186897132336501671189860107232812037024433449904255453032105652401399556415295650447645426109615791663852440790611725924098289051411293803597627783628992875781606797142447809002113722624038763429614362603269598492528372534912389940320599010908750142146048896834994846123892403256342974379471121410587286956157952799680419334352518886024445597522707822381433898
def P2 : Rat := (Pn : Rat) / ((2 ^ 1200 : Nat) : Rat)
def dsL : Nat → List Rat
  | 0 => []
  | n + 1 => (((2 * n + 2) * (2 * n + 3) : Nat) : Rat) :: dsL n
def dcL : Nat → List Rat
  | 0 => []
  | n + 1 => (((2 * n + 1) * (2 * n + 2) : Nat) : Rat) :: dcL n
/-- sine by its angle, cosine; of the angle's square -/
def hs (y : Rat) : Rat := nestR y (dsL 150) 1
def hc (y : Rat) : Rat := nestR y (dcL 150) 1
def sQ (z : Rat) : Rat := z * hs (z * z)
def cQ (z : Rat) : Rat := hc (z * z)
structure An (z : Rat) : Prop where
  lo : -(101 / 128) ≤ z
  hi : z ≤ 101 / 128
theorem An.sq {z : Rat} (h : An z) : 0 ≤ z * z ∧ z * z ≤ 5 / 8 := ⟨sq_nn z, by have := sq_bd h.lo h.hi; grind⟩
/-- at an eighth both are the same, but for next to nothing -/
def eps : Rat := 1 / ((2 ^ 1150 : Nat) : Rat)
set_option maxRecDepth 100000 in
theorem eighth : decide (sQ (P2 / 8) ≤ cQ (P2 / 8) + eps ∧ cQ (P2 / 8) ≤ sQ (P2 / 8) + eps) = true := by decide +kernel
end Bu
namespace Bu
set_option linter.all false
open Rx Go

theorem eps_pos : 0 < eps := by
  have h : decide (0 < eps) = true := by decide +kernel
  exact of_decide_eq_true h
end Bu
namespace Bu
set_option linter.all false
open Rx Go

end Bu
namespace Bu
set_option linter.all false
open Rx Go

/-- near, but for next to nothing -/
structure Nx (a b : Rat) : Prop where
  le : a ≤ b + eps
  ge : b ≤ a + eps
theorem Nx.refl {a b : Rat} (h : a = b) : Nx a b := by have := eps_pos; subst h; exact ⟨by grind, by grind⟩
end Bu
namespace Bu
set_option linter.all false
open Rx Go

/-- t^n by n! -/
def TT (t : Rat) : Nat → Rat
  | 0 => 1
  | n + 1 => TT t n * t / ((n + 1 : Nat) : Rat)
/-- of the first n -/
def sm (f : Nat → Rat) : Nat → Rat
  | 0 => 0
  | n + 1 => sm f n + f n
theorem nz (n : Nat) : ((n + 1 : Nat) : Rat) ≠ 0 := by
  intro h
  have := Rat.natCast_inj.1 (show ((n + 1 : Nat) : Rat) = ((0 : Nat) : Rat) from h)
  omega
def cv (a b : Rat) (n : Nat) : Rat := sm (fun i => TT a i * TT b (n - i)) (n + 1)
/-- of 1, i, -1, -i .. -/
def rs : Nat → Rat × Rat
  | 0 => (1, 0)
  | n + 1 => (-(rs n).2, (rs n).1)
def ro (n : Nat) : Rat := (rs n).1
/-- within so much about 0 -/
structure Ab (x d : Rat) : Prop where
  lo : -d ≤ x
  hi : x ≤ d
theorem Ab.mul {x y d e : Rat} (h : Ab x d) (k : Ab y e) : Ab (x * y) (d * e) := by
  have a := h.lo; have b := h.hi; have a2 := k.lo; have b2 := k.hi
  have k1 := Rat.mul_nonneg (show 0 ≤ d - x by grind) (show 0 ≤ e - y by grind)
  have k2 := Rat.mul_nonneg (show 0 ≤ d - x by grind) (show 0 ≤ e + y by grind)
  have k3 := Rat.mul_nonneg (show 0 ≤ d + x by grind) (show 0 ≤ e - y by grind)
  have k4 := Rat.mul_nonneg (show 0 ≤ d + x by grind) (show 0 ≤ e + y by grind)
  exact ⟨by grind, by grind⟩
theorem Ab.nn {x d : Rat} (h : Ab x d) : 0 ≤ d := by have a := h.lo; have b := h.hi; grind
/-- next to nothing, by far -/
def dl : Rat := 1 / ((2 ^ 1160 : Nat) : Rat)
theorem An.ab {z : Rat} (h : An z) : Ab z 2 := ⟨by have := h.lo; grind, by have := h.hi; grind⟩
end Bu
namespace Bu
set_option linter.all false
open Rx Go Ieee

/-- rounded to one side or the other -/
structure Nr (D : F) (v : Rat) : Prop where
  up : ∀ c : F, v ≤ c.q → D.q ≤ c.q
  dn : ∀ c : F, c.q ≤ v → c.q ≤ D.q
theorem z_lt_q {a : F} {d : Int} : a.z ≤ d ↔ a.q ≤ (d : Rat) / (S : Rat) := by
  have h := @z_le_iff a d 1 (by decide)
  rw [show ((1 : Nat) : Int) = 1 from rfl, Int.mul_one, show ((1 : Nat) : Rat) = 1 from rfl, Rat.mul_one] at h
  exact h
theorem z_gt_q {a : F} {d : Int} : d ≤ a.z ↔ (d : Rat) / (S : Rat) ≤ a.q := by
  have h := @rat_le_iff a d 1 (by decide)
  rw [show ((1 : Nat) : Int) = 1 from rfl, Int.mul_one, show ((1 : Nat) : Rat) = 1 from rfl, Rat.mul_one] at h
  exact h
theorem nvk {c : F} (h : 0 ≤ c.k) : (nv c.k.natAbs : Int) = c.z := by
  have e := nvZ_natCast c.k.natAbs
  have : ((c.k.natAbs : Nat) : Int) = c.k := by omega
  rw [this] at e
  exact e.symm
/-- a whole number of the least places, rounded -/
theorem nr_of {d : Int} {g : F} (hd : d ≠ 0) (hg : (d.natAbs : Int) ≤ g.z) : ∃ D : F, double.word (decide (d < 0)) (min (near d.natAbs 1) T) = D.b ∧ Nr D ((d : Rat) / (S : Rat)) := by
  have hg0 : 0 ≤ g.k := by
    have : 0 < g.z := by omega
    have a := z_sign g; have b := z_zero g
    omega
  have hT := g.hk
  have key : ∀ c : F, 0 ≤ c.k → ((d.natAbs : Int) ≤ c.z → near d.natAbs 1 ≤ c.k.natAbs) ∧ (c.z ≤ (d.natAbs : Int) → c.k.natAbs ≤ near d.natAbs 1) := by
    intro c hc
    have e := nvk hc
    exact ⟨fun h => near_le (by decide) (by omega), fun h => le_near (by decide) (by omega)⟩
  have k0 := (key g hg0).1 hg
  have hpos : 1 ≤ near d.natAbs 1 := by
    have h1 : nv 1 = 1 := by decide
    exact le_near (by decide) (by rw [h1]; omega)
  rw [Nat.min_eq_left (by omega)]
  rcases Int.lt_or_gt_of_ne hd with h | h
  · rw [decide_eq_true h, word_F _ _ (by omega) (by intro _; omega), if_pos rfl]
    refine ⟨_, rfl, ?_, ?_⟩
    · intro c hc
      rw [← z_gt_q] at hc
      rw [q_le, F.of_k (by omega)]
      rcases (show c.k < 0 ∨ 0 ≤ c.k by omega) with s | s
      · have := (key c.neg (by rw [F.neg_k]; omega)).2 (by rw [F.neg_z]; omega)
        rw [F.neg_k] at this; omega
      · omega
    · intro c hc
      rw [← z_lt_q] at hc
      rw [q_le, F.of_k (by omega)]
      have a := z_sign c
      have := (key c.neg (by rw [F.neg_k]; omega)).1 (by rw [F.neg_z]; omega)
      rw [F.neg_k] at this; omega
  · rw [decide_eq_false (by omega), word_F _ _ (by omega) (by simp), if_neg (by decide)]
    refine ⟨_, rfl, ?_, ?_⟩
    · intro c hc
      rw [← z_gt_q] at hc
      rw [q_le, F.of_k (by omega)]
      have a := z_sign c; have b := z_zero c
      have := (key c (by omega)).1 (by omega)
      omega
    · intro c hc
      rw [← z_lt_q] at hc
      rw [q_le, F.of_k (by omega)]
      rcases (show c.k < 0 ∨ 0 ≤ c.k by omega) with s | s
      · omega
      · have := (key c s).2 (by omega)
        omega
theorem nr_zero : Nr F.zero 0 := ⟨fun c h => by rw [q_zero]; exact h, fun c h => by rw [q_zero]; exact h⟩
theorem z_diff' {x y c : F} (h : x.q - y.q ≤ c.q) : x.z - y.z ≤ c.z := by
  have h1 := Rat.mul_nonneg (show 0 ≤ c.q - (x.q - y.q) by grind) (Rat.le_of_lt S_gt)
  have e1 := F.q_mul x; have e2 := F.q_mul y; have e3 := F.q_mul c
  have h2 : ((x.z - y.z : Int) : Rat) ≤ ((c.z : Int) : Rat) := by
    rw [Rat.intCast_sub, ← e1, ← e2, ← e3]
    generalize (S : Rat) = s at *
    grind
  exact Rat.intCast_le_intCast.1 h2
theorem sub_nr {x y g : F} (h1 : x.q - y.q ≤ g.q) (h2 : y.q - x.q ≤ g.q) : ∃ D : F, double.sub x.b y.b = some D.b ∧ Nr D (x.q - y.q) := by
  have e : x.q - y.q = ((x.z - y.z : Int) : Rat) / (S : Rat) := by have := sub_v x y; rw [show ((1 : Nat) : Rat) = 1 from rfl, Rat.mul_one] at this; exact this.symm
  rw [sub_F]
  by_cases c : x.z - y.z = 0
  · rw [if_pos c, e, c]
    refine ⟨F.zero, rfl, ?_⟩
    rw [show ((0 : Int) : Rat) = 0 from rfl, Rat.div_def, Rat.zero_mul]
    exact nr_zero
  · have a1 := z_diff' h1; have a2 := z_diff' h2
    obtain ⟨D, d1, d2⟩ := nr_of (g := g) c (by omega)
    rw [if_neg c, d1, e]
    exact ⟨D, rfl, d2⟩
theorem add_nr {x y g : F} (h1 : x.q + y.q ≤ g.q) (h2 : -(x.q + y.q) ≤ g.q) : ∃ D : F, double.add x.b y.b = some D.b ∧ Nr D (x.q + y.q) := by
  have e : x.q + y.q = ((x.z + y.z : Int) : Rat) / (S : Rat) := by have := add_v x y; rw [show ((1 : Nat) : Rat) = 1 from rfl, Rat.mul_one] at this; exact this.symm
  have a1 : x.z + y.z ≤ g.z := by have := z_diff' (x := x) (y := y.neg) (c := g) (by rw [q_neg]; grind); rw [F.neg_z] at this; omega
  have a2 : -(x.z + y.z) ≤ g.z := by have := z_diff' (x := x.neg) (y := y) (c := g) (by rw [q_neg]; grind); rw [F.neg_z] at this; omega
  rw [add_F]
  by_cases c : x.z + y.z = 0
  · rw [if_pos c, e, c]
    refine ⟨F.zero, rfl, ?_⟩
    rw [show ((0 : Int) : Rat) = 0 from rfl, Rat.div_def, Rat.zero_mul]
    exact nr_zero
  · obtain ⟨D, d1, d2⟩ := nr_of (g := g) c (by omega)
    rw [if_neg c, d1, e]
    exact ⟨D, rfl, d2⟩
end Bu
namespace Bu
set_option linter.all false
open Rx Go

theorem Nr.eq {D c : F} {v : Rat} (h : Nr D v) (hc : c.q = v) : D.q = v := by
  have a := h.up c (by rw [hc]; exact Rat.le_refl)
  have b := h.dn c (by rw [hc]; exact Rat.le_refl)
  grind
end Bu
namespace Bu
set_option linter.all false
open Rx Go

/-- a sum or a difference in the run: its value, and what it takes -/
def sf (s : Option Nat) : F := toF (s.getD 0)
def so (s : Option Nat) : Obs := [(s.isSome, true), (rightB (s.getD 0), true)]
theorem so_ok {s : Option Nat} {D : F} (h : s = some D.b) : obsB (so s) = true ∧ sf s = D := by
  subst h
  refine ⟨?_, toF_F D⟩
  unfold so obsB
  rw [List.all_cons, List.all_cons, Option.isSome_some, Option.getD_some, right_F]; rfl
end Bu
namespace Bu
set_option linter.all false
open Rx Go

structure Kp where
  ib : I → Bool
  si : I → I
  co : I → I
  bt : F → F → Int → F
  u : Int → Bool
  me : I → I → Bool
  neg : Int → I → I × Int
  ld : F → Int → F
  lo : F → Int → Bool
def fad (x y : F) : Option Nat := Ieee.double.add x.b y.b
def fsu (x y : F) : Option Nat := Ieee.double.sub x.b y.b
def eT (N : Kp) (x : F) : Int := (N.neg (N.neg 0 (N.si ⟨x, x⟩)).2 (N.co ⟨x, x⟩)).2
def eA (N : Kp) (x : F) (e : Int) : Int := (N.neg e (N.si ⟨x, x⟩)).2
structure N1 (x : F) : Prop where
  lo : -1 ≤ x.q
  hi : x.q ≤ 1
theorem ob2 {a b : Obs} (ha : obsB a = true) (hb : obsB b = true) : obsB (a ++ b) = true := by rw [obsB_app, ha, hb]; rfl
end Bu
namespace Bu
set_option linter.all false
open Rx Go

def two64 : F := toF 4611686018427387904
def fmu (x y : F) : Option Nat := Ieee.double.mul x.b y.b
structure Kh where
  ib : I → Bool
  si : I → I
  co : I → I
  me : I → I → Bool
  add : Int → I → I → I × Int
  sub : Int → I → I → I × Int
  mul : Int → I → I → I × Int
  div : Int → I → I → I × Int
  max : Int → I → I → I × Int
  sqr : Int → I → I × Int
  sqrt : Int → I → I × Int
  num : Int → F → I × Int
def fdv (x y : F) : Option Nat := Ieee.double.div x.b y.b
def hT (N : Kh) : I × Int := N.num 0 two64
def hM1 (N : Kh) (u : I) : I × Int := N.mul (hT N).2 (N.si u) (N.co u)
def hM2 (N : Kh) (u : I) : I × Int := N.mul (hM1 N u).2 (hT N).1 (hM1 N u).1
def hQ1 (N : Kh) (u : I) : I × Int := N.sqr (hM2 N u).2 (N.co u)
def hQ2 (N : Kh) (u : I) : I × Int := N.sqr (hQ1 N u).2 (N.si u)
def hD (N : Kh) (u : I) : I × Int := N.sub (hQ2 N u).2 (hQ1 N u).1 (hQ2 N u).1
def hB (N : Kh) (u v : I) : Obs := [(!((hD N u).2 == 0), false), (N.me (N.co v) (hD N u).1, true), (N.me (N.si v) (hM2 N u).1, true), (N.ib v, true)]
def hP (f : Int → I → I → I × Int) (N : Kh) (t C : I) (e : Int) : I × Int :=
  N.max (N.num (N.div (f (N.num e one64).2 (N.num e one64).1 C).2 (f (N.num e one64).2 (N.num e one64).1 C).1 t).2 (toF 0)).2 (N.div (f (N.num e one64).2 (N.num e one64).1 C).2 (f (N.num e one64).2 (N.num e one64).1 C).1 t).1 (N.num (N.div (f (N.num e one64).2 (N.num e one64).1 C).2 (f (N.num e one64).2 (N.num e one64).1 C).1 t).2 (toF 0)).1
end Bu
