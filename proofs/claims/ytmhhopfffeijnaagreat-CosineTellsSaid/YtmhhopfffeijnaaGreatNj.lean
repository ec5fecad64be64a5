/- Sums, as the document tells them: what is reckoned comes to the sum, rounded to its side. -/
import Derived.Test.YtmhhopfffeijnaaGreatNg
import Derived.Test.YtmhhopfffeijnaaGreatGd
namespace Bu
set_option linter.all false
open Ieee Rx

theorem add_wrd (x y : F) : double.add x.b y.b = some (wrd (x.z + y.z) 1) := add_F x y
theorem sub_wrd (x y : F) : double.sub x.b y.b = some (wrd (x.z - y.z) 1) := sub_F x y
def aN (x y : F) : F := toF ((double.add x.b y.b).getD 0)
def sN (x y : F) : F := toF ((double.sub x.b y.b).getD 0)
def oA (x y : F) : Obs := [((double.add x.b y.b).isSome, true), (rightB ((double.add x.b y.b).getD 0), true)]
def oS (x y : F) : Obs := [((double.sub x.b y.b).isSome, true), (rightB ((double.sub x.b y.b).getD 0), true)]
theorem ob_pair {o : Option Nat} {D : F} (h : o = some D.b) : obsB [(o.isSome, true), (rightB (o.getD 0), true)] = true ∧ toF (o.getD 0) = D := by
  rw [h]
  refine ⟨?_, toF_F D⟩
  simp only [obsB, List.all_cons, List.all_nil, Option.isSome_some, Option.getD_some, right_F, beq_self_eq_true, Bool.and_self]
theorem aN_eq {x y D : F} (h : wrd (x.z + y.z) 1 = D.b) : aN x y = D ∧ obsB (oA x y) = true := by
  have := ob_pair (o := double.add x.b y.b) (D := D) (by rw [add_wrd, h])
  exact ⟨this.2, this.1⟩
theorem sN_eq {x y D : F} (h : wrd (x.z - y.z) 1 = D.b) : sN x y = D ∧ obsB (oS x y) = true := by
  have := ob_pair (o := double.sub x.b y.b) (D := D) (by rw [sub_wrd, h])
  exact ⟨this.2, this.1⟩
theorem dk_pos (d : F) : decide (0 < d.k) = true ↔ 0 < d.z := by
  have := z_sign d; have := z_zero d
  rw [decide_eq_true_iff]; omega
theorem dk_neg (d : F) : decide (d.k < 0) = true ↔ d.z < 0 := by
  have := z_sign d
  rw [decide_eq_true_iff]; omega
/-- the side of a sum -/
theorem add_side {a b s d : F} (hs : Nst s.z (a.z + b.z)) (hp : 0 < d.z ↔ s.z < a.z + b.z) (hn : d.z < 0 ↔ a.z + b.z < s.z) (up : Bool) : sideF s (decide (0 < d.k)) (decide (d.k < 0)) up = dAdd up a b := by
  refine side_ok (by decide) hs.nk ?_ ?_
  · rw [dk_pos, hp, show ((1 : Nat) : Int) = 1 from rfl, Int.mul_one]
  · rw [dk_neg, hn, show ((1 : Nat) : Int) = 1 from rfl, Int.mul_one]
theorem abs_z (x : F) : x.abs.z = (x.z.natAbs : Int) := by
  have e : x.abs.z = (nv x.k.natAbs : Int) := nvZ_natCast _
  rw [e, z_natAbs']
theorem abs_le {g x : F} : g.k ≤ x.abs.k ↔ g.z ≤ (x.z.natAbs : Int) := by
  have := @F.z_le g x.abs
  rw [abs_z] at this
  exact this.symm
theorem abs_lt' {g x : F} : x.abs.k < g.k ↔ (x.z.natAbs : Int) < g.z := by
  have := @F.z_lt x.abs g
  rw [abs_z] at this
  exact this.symm
/-- what is taken for known of great sums -/
def farC (a b s : F) : Prop := wrd (a.z + b.z) 1 = s.b ∧ G0.z ≤ (s.z.natAbs : Int)
instance (a b s : F) : Decidable (farC a b s) := by unfold farC; infer_instance
theorem fin_rep {z : Int} {g : F} (h : Rep z) (k : z.natAbs ≤ g.z.natAbs) : ∃ x : F, x.z = z := by
  obtain ⟨j, rfl⟩ := h
  have a := abs_z g
  have hg := g.abs.hk
  have h1 : j ≤ g.abs.k := nvZ_le_iff.1 (by have : nvZ g.abs.k = g.abs.z := rfl; omega)
  have h2 : -g.abs.k ≤ j := nvZ_le_iff.1 (by rw [nvZ_neg]; have : nvZ g.abs.k = g.abs.z := rfl; omega)
  refine ⟨F.of j, ?_⟩
  unfold F.z
  rw [F.of_k (by omega)]
theorem K60_fact : nvZ (K60.k - 1) = nvZ ((toF 4607182418800017408).k - 1) * (Q60 : Int) ∧ K60.z = (S : Int) * (Q60 : Int) ∧ (toF 4607182418800017408).z = S ∧ ((2 * P * Q60 : Nat) : Int) ≤ K60.z := by decide +kernel
theorem small_60 {a : F} (h : (a.z.natAbs : Int) < K60.z) : (∃ D : F, ldW a (-60) = D.b ∧ D.abs.k < (toF 4607182418800017408).k) ∨ ldW a (-60) = NEG0 := by
  obtain ⟨f1, _, _, _⟩ := K60_fact
  have nk := ld_Nk a (-60)
  have e1 : (2 : Nat) ^ (-60 : Int).toNat = 1 := rfl
  have e2 : (2 : Nat) ^ (-(-60 : Int)).toNat = Q60 := by rw [Q60_eq]; rfl
  rw [e1, e2, show ((1 : Nat) : Int) = 1 from rfl, Int.mul_one] at nk
  have ok : 0 < (toF 4607182418800017408).k := by decide +kernel
  have ok2 : (toF 4607182418800017408).k < (T : Int) := (toF 4607182418800017408).hk.2
  have ka : a.abs.k ≤ K60.k - 1 := by have := abs_lt'.2 h; omega
  have za : (a.z.natAbs : Int) ≤ nvZ (K60.k - 1) := by
    have : nvZ a.abs.k = a.abs.z := rfl
    rw [← abs_z, ← this]
    exact nvZ_le_iff.2 ka
  rw [f1] at za
  have u1 := nk.up ((toF 4607182418800017408).k - 1) (by omega)
  have u2 := nk.dn (-((toF 4607182418800017408).k - 1)) (by rw [nvZ_neg, Int.neg_mul]; omega)
  rcases ld_out a (-60) with ⟨D, e, k⟩ | ⟨e, _⟩ | ⟨_, k⟩ | ⟨_, k⟩
  · left
    refine ⟨D, e, ?_⟩
    have : D.abs.k = (D.k.natAbs : Int) := rfl
    omega
  · exact .inr e
  · omega
  · omega
theorem big_60 {a : F} (h : K60.z ≤ (a.z.natAbs : Int)) : ∃ x : F, ldW a (-60) = x.b ∧ a.z = x.z * (Q60 : Int) ∧ ¬ x.abs.k < (toF 4607182418800017408).k := by
  obtain ⟨_, f2, f3, f4⟩ := K60_fact
  obtain ⟨n, e⟩ := rep_coarse (rep_F a) (i := 60) (by rw [← Q60_eq]; omega)
  rw [← Q60_eq] at e
  have q0 : 0 < Q60 := Q60_eq ▸ Nat.two_pow_pos 60
  have en := congrArg Int.natAbs e
  rw [mul_abs] at en
  have rn : Rep n := by
    obtain ⟨m, s, ea, hm, hs⟩ := rep_parts (rep_F a)
    by_cases c : 60 ≤ s
    · obtain ⟨d, hd, _⟩ := pow_split c
      rw [← Q60_eq] at hd
      have hd2 : 2 ^ (s - 60) * Q60 = 2 ^ s := by rw [Q60_eq, ← Nat.pow_add]; congr 1; omega
      have : n = m * ((2 ^ (s - 60) : Nat) : Int) := by
        rw [ea, ← hd2, Int.natCast_mul, ← Int.mul_assoc] at e
        exact (Int.mul_eq_mul_right_iff (by omega)).1 e.symm
      rw [this]
      exact rep_mk (by omega)
    · refine (show n = n * ((2 ^ 0 : Nat) : Int) by simp) ▸ rep_mk ?_
      rw [ea, mul_abs] at en
      have h1 : m.natAbs * 2 ^ s < 2 * P * 2 ^ s := Nat.mul_lt_mul_of_pos_right hm (Nat.two_pow_pos s)
      have h2 : 2 * P * 2 ^ s ≤ 2 * P * Q60 := Nat.mul_le_mul_left _ (by rw [Q60_eq]; exact Nat.pow_le_pow_right (by decide) (by omega))
      have h3 : n.natAbs * Q60 < 2 * P * Q60 := by omega
      exact Nat.le_of_lt (Nat.lt_of_mul_lt_mul_right h3)
  have le : n.natAbs ≤ a.z.natAbs := by rw [en]; exact Nat.le_mul_of_pos_right _ q0
  obtain ⟨x, hx⟩ := fin_rep (g := a) rn le
  refine ⟨x, ?_, by rw [hx]; exact e, ?_⟩
  · apply ld_exact
    unfold Sc
    rw [show (-(-60 : Int)).toNat = 60 from rfl, show (-60 : Int).toNat = 0 from rfl, ← Q60_eq, hx, ← e]
    simp
  · rw [abs_lt', f3, hx]
    intro c
    have : n.natAbs < S := by omega
    have := Nat.mul_lt_mul_of_pos_right this q0
    rw [f2, en] at h
    omega
end Bu
