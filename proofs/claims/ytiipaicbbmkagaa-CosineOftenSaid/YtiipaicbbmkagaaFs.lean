/- Subtraction, and how far the nearest number may lie. -/
import Derived.Test.YtiipaicbbmkagaaFn
namespace Bu
set_option linter.all false
open Ieee

theorem signed_not (b : Bool) (m n : Nat) : signed (!b) m n = - signed b m n := by
  rw [signed_eq, signed_eq]
  cases b <;> simp

/-- '-' -/
theorem sub_F (x y : F) : double.sub x.b y.b = some (if x.z - y.z = 0 then 0 else double.word (decide (x.z - y.z < 0)) (min (near (x.z - y.z).natAbs 1) T)) := by
  unfold Format.sub
  rw [read_F, read_F]
  simp only [Datum.opposite, Datum.sum, Option.map_some, Format.write]
  obtain ⟨base, hbase⟩ : ∃ b : Int, b = min (-1074 + (pl x.k.natAbs : Int)) (-1074 + (pl y.k.natAbs : Int)) := ⟨_, rfl⟩
  rw [← hbase, signed_not]
  have s1 := signed_scale (decide (x.k < 0)) (man x.k.natAbs) (-1074 + (pl x.k.natAbs : Int)) base (by omega) (by omega)
  have s2 := signed_scale (decide (y.k < 0)) (man y.k.natAbs) (-1074 + (pl y.k.natAbs : Int)) base (by omega) (by omega)
  rw [show (-1074 + (pl x.k.natAbs : Int) + 1074).toNat = pl x.k.natAbs from by omega, ← nvZ_sign] at s1
  rw [show (-1074 + (pl y.k.natAbs : Int) + 1074).toNat = pl y.k.natAbs from by omega, ← nvZ_sign] at s2
  generalize signed (decide (x.k < 0)) (man x.k.natAbs) (-1074 + (pl x.k.natAbs : Int) - base).toNat = u at *
  generalize signed (decide (y.k < 0)) (man y.k.natAbs) (-1074 + (pl y.k.natAbs : Int) - base).toNat = v at *
  have hp := Nat.two_pow_pos (base + 1074).toNat
  have hz : x.z - y.z = (u + -v) * ((2 ^ (base + 1074).toNat : Nat) : Int) := by
    unfold F.z; rw [Int.add_mul, Int.neg_mul, s1, s2]; omega
  have hpos : (0 : Int) < ((2 ^ (base + 1074).toNat : Nat) : Int) := by omega
  have t1 : x.z - y.z = 0 ↔ u + -v = 0 := by
    rw [hz]; constructor
    · intro h; rcases Int.mul_eq_zero.1 h with h | h
      · exact h
      · omega
    · intro h; rw [h, Int.zero_mul]
  have t2 : x.z - y.z < 0 ↔ u + -v < 0 := by
    rw [hz]
    have := Int.mul_lt_mul_right (b := u + -v) (c := 0) hpos
    rw [Int.zero_mul] at this
    exact this
  by_cases h0 : u + -v = 0
  · rw [if_pos (t1.2 h0)]
    have hx0 : (decide (x.k < 0) && !decide (y.k < 0)) = false := by
      rw [Bool.and_eq_false_iff]
      have a1 := z_sign x
      have a2 := z_sign y
      have := t1.2 h0
      simp only [decide_eq_false_iff_not, Bool.not_eq_false', decide_eq_true_eq]
      omega
    rw [h0]
    simp [hx0, Format.nearest, Format.word]
  · rw [if_neg (fun h => h0 (t1.1 h)), if_neg h0, nearest_eq _ _ _ (by omega)]
    simp only [t2]
    have e : near ((u + -v).natAbs * 2 ^ (base + 1074).toNat) (2 ^ (-(base + 1074)).toNat) = near (x.z - y.z).natAbs 1 := by
      refine near_ratio (Nat.two_pow_pos _) (by omega) ?_
      rw [hz, Int.natAbs_mul, Int.natAbs_natCast, show (-(base + 1074)).toNat = 0 from by omega]
    rw [e]

/-- what does not pass a number on the ladder is not rounded past it -/
theorem near_le {n d r : Nat} (hd : 0 < d) (h : n ≤ nv r * d) : near n d ≤ r := by
  have h1 : n / d ≤ nv r := by
    have := Nat.div_le_div_right (c := d) h
    rwa [Nat.mul_div_cancel _ hd] at this
  have h2 : fl (n / d) ≤ r := by have := fl_mono h1; rwa [fl_nv] at this
  by_cases c : fl (n / d) = r
  · have h3 : nv r ≤ n / d := by rw [← c]; exact nv_fl_le _
    have h4 : n = nv r * d := by
      have := Nat.le_div_iff_mul_le hd |>.1 h3
      omega
    rw [near_exact hd h4]; exact Nat.le_refl _
  · unfold near
    simp only
    split
    · omega
    · split
      · omega
      · split <;> omega
theorem le_near {n d r : Nat} (hd : 0 < d) (h : nv r * d ≤ n) : r ≤ near n d := by
  have h1 : nv r ≤ n / d := (Nat.le_div_iff_mul_le hd).2 h
  have h2 : r ≤ fl (n / d) := by have := fl_mono h1; rwa [fl_nv] at this
  unfold near
  simp only
  split
  · exact h2
  · split
    · omega
    · split <;> omega
end Bu
