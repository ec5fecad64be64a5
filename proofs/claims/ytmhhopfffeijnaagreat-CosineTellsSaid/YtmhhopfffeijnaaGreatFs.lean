/- Subtraction, and how far the nearest number may lie. A quotient of two numbers, the lesser by the greater. -/
import Derived.Test.YtmhhopfffeijnaaGreatFc
namespace Bu
set_option linter.all false
open Ieee

theorem signed_not (b : Bool) (m n : Nat) : signed (!b) m n = - signed b m n := by
  rw [signed_eq, signed_eq]
  cases b <;> simp

/-- '-' -/
theorem sub_F (x y : F) : double.sub x.b y.b = some (if x.z - y.z = 0 then 0 else double.word (decide (x.z - y.z < 0)) (min (near (x.z - y.z).natAbs 1) T)) := by
  unfold Format.sub
  rw [read_F, read_F]
  simp only [Datum.opposite, Datum.sum, Option.map_some, Format.write]
  obtain ⟨base, hbase⟩ : ∃ b : Int, b = min (-1074 + (pl x.k.natAbs : Int)) (-1074 + (pl y.k.natAbs : Int)) := ⟨_, rfl⟩
  rw [← hbase, signed_not]
  have s1 := signed_scale (decide (x.k < 0)) (man x.k.natAbs) (-1074 + (pl x.k.natAbs : Int)) base (by omega) (by omega)
  have s2 := signed_scale (decide (y.k < 0)) (man y.k.natAbs) (-1074 + (pl y.k.natAbs : Int)) base (by omega) (by omega)
  rw [show (-1074 + (pl x.k.natAbs : Int) + 1074).toNat = pl x.k.natAbs from by omega, ← nvZ_sign] at s1
  rw [show (-1074 + (pl y.k.natAbs : Int) + 1074).toNat = pl y.k.natAbs from by omega, ← nvZ_sign] at s2
  generalize signed (decide (x.k < 0)) (man x.k.natAbs) (-1074 + (pl x.k.natAbs : Int) - base).toNat = u at *
  generalize signed (decide (y.k < 0)) (man y.k.natAbs) (-1074 + (pl y.k.natAbs : Int) - base).toNat = v at *
  have hp := Nat.two_pow_pos (base + 1074).toNat
  have hz : x.z - y.z = (u + -v) * ((2 ^ (base + 1074).toNat : Nat) : Int) := by
    unfold F.z; rw [Int.add_mul, Int.neg_mul, s1, s2]; omega
  have hpos : (0 : Int) < ((2 ^ (base + 1074).toNat : Nat) : Int) := by omega
  have t1 : x.z - y.z = 0 ↔ u + -v = 0 := by
    rw [hz]; constructor
    · intro h; rcases Int.mul_eq_zero.1 h with h | h
      · exact h
      · omega
    · intro h; rw [h, Int.zero_mul]
  have t2 : x.z - y.z < 0 ↔ u + -v < 0 := by
    rw [hz]
    have := Int.mul_lt_mul_right (b := u + -v) (c := 0) hpos
    rw [Int.zero_mul] at this
    exact this
  by_cases h0 : u + -v = 0
  · rw [if_pos (t1.2 h0)]
    have hx0 : (decide (x.k < 0) && !decide (y.k < 0)) = false := by
      rw [Bool.and_eq_false_iff]
      have a1 := z_sign x
      have a2 := z_sign y
      have := t1.2 h0
      simp only [decide_eq_false_iff_not, Bool.not_eq_false', decide_eq_true_eq]
      omega
    rw [h0]
    simp [hx0, Format.nearest, Format.word]
  · rw [if_neg (fun h => h0 (t1.1 h)), if_neg h0, nearest_eq _ _ _ (by omega)]
    simp only [t2]
    have e : near ((u + -v).natAbs * 2 ^ (base + 1074).toNat) (2 ^ (-(base + 1074)).toNat) = near (x.z - y.z).natAbs 1 := by
      refine near_ratio (Nat.two_pow_pos _) (by omega) ?_
      rw [hz, Int.natAbs_mul, Int.natAbs_natCast, show (-(base + 1074)).toNat = 0 from by omega]
    rw [e]

/-- what does not pass a number on the ladder is not rounded past it -/
theorem near_le {n d r : Nat} (hd : 0 < d) (h : n ≤ nv r * d) : near n d ≤ r := by
  have h1 : n / d ≤ nv r := by
    have := Nat.div_le_div_right (c := d) h
    rwa [Nat.mul_div_cancel _ hd] at this
  have h2 : fl (n / d) ≤ r := by have := fl_mono h1; rwa [fl_nv] at this
  by_cases c : fl (n / d) = r
  · have h3 : nv r ≤ n / d := by rw [← c]; exact nv_fl_le _
    have h4 : n = nv r * d := by
      have := Nat.le_div_iff_mul_le hd |>.1 h3
      omega
    rw [near_exact hd h4]; exact Nat.le_refl _
  · unfold near
    simp only
    split
    · omega
    · split
      · omega
      · split <;> omega
theorem le_near {n d r : Nat} (hd : 0 < d) (h : nv r * d ≤ n) : r ≤ near n d := by
  have h1 : nv r ≤ n / d := (Nat.le_div_iff_mul_le hd).2 h
  have h2 : r ≤ fl (n / d) := by have := fl_mono h1; rwa [fl_nv] at this
  unfold near
  simp only
  split
  · exact h2
  · split
    · omega
    · split <;> omega
end Bu
namespace Bu
set_option linter.all false
open Ieee

theorem quot_le {m n A B more : Nat} (hn : n ≠ 0) (h : m * 2 ^ A ≤ n * 2 ^ B) (hA : A ≤ B + more) : (2 * (m * 2 ^ more / n) + (m * 2 ^ more % n != 0).toNat) ≤ 2 ^ (1 + more + B - A) := by
  obtain ⟨c, hc⟩ : ∃ c, B + more = A + c := ⟨B + more - A, by omega⟩
  have e1 : 1 + more + B - A = c + 1 := by omega
  rw [e1, Nat.pow_succ]
  have hp := Nat.two_pow_pos A
  have h1 : m * 2 ^ more ≤ n * 2 ^ c := by
    have h2 : m * 2 ^ A * 2 ^ more ≤ n * 2 ^ B * 2 ^ more := Nat.mul_le_mul_right _ h
    have e2 : n * 2 ^ B * 2 ^ more = n * 2 ^ c * 2 ^ A := by rw [Nat.mul_assoc, Nat.mul_assoc, ← Nat.pow_add, ← Nat.pow_add, hc, Nat.add_comm]
    have e3 : m * 2 ^ A * 2 ^ more = m * 2 ^ more * 2 ^ A := by rw [Nat.mul_right_comm]
    rw [e2, e3] at h2
    exact Nat.le_of_mul_le_mul_right h2 hp
  have hd := Nat.div_add_mod (m * 2 ^ more) n
  have hr := Nat.mod_lt (m * 2 ^ more) (Nat.pos_of_ne_zero hn)
  generalize m * 2 ^ more / n = Q at *
  generalize m * 2 ^ more % n = R at *
  generalize 2 ^ c = C at *
  have hQ : Q ≤ C := by
    apply Nat.le_of_not_lt
    intro g
    have := Nat.mul_le_mul_left n (show C + 1 ≤ Q from g)
    rw [Nat.mul_add] at this
    omega
  by_cases hR : R = 0
  · subst hR; simp; omega
  · have hs : (R != 0).toNat = 1 := by simp [hR]
    rw [hs]
    have : Q ≠ C := by
      intro e; subst e; omega
    omega
theorem div_le1 {x y : F} (hx : 0 < x.k) (hy : 0 < y.k) (h : x.z ≤ y.z) {r : Nat} (hr : nv r = S) (hT : r < T) : ∃ t : F, double.div x.b y.b = some t.b ∧ 0 ≤ t.k ∧ t.k ≤ r := by
  have m1 : man x.k.natAbs ≠ 0 := fun h => by have := man_zero _ h; omega
  have m2 : man y.k.natAbs ≠ 0 := fun h => by have := man_zero _ h; omega
  have hz : man x.k.natAbs * 2 ^ pl x.k.natAbs ≤ man y.k.natAbs * 2 ^ pl y.k.natAbs := by
    have a := z_natAbs x
    have b := z_natAbs y
    have s1 := (z_sign x); have s2 := (z_sign y)
    omega
  unfold Format.div
  rw [read_F, read_F]
  simp only [Datum.quotient, if_neg m2, Option.map_some, Format.write]
  rw [decide_eq_false (show ¬ x.k < 0 by omega), decide_eq_false (show ¬ y.k < 0 by omega)]
  generalize hmm : man x.k.natAbs = m at *
  generalize hnn : man y.k.natAbs = n at *
  generalize pl x.k.natAbs = A at *
  generalize pl y.k.natAbs = B at *
  obtain ⟨more, hmo⟩ : ∃ more, double.fractionBits + 2 + n.log2 - m.log2 = more := ⟨_, rfl⟩
  rw [hmo, Nat.shiftLeft_eq]
  have hfb : double.fractionBits = 52 := rfl
  rw [hfb] at hmo
  have l1 := Nat.log2_self_le m1
  have l2 : n < 2 ^ (n.log2 + 1) := Nat.lt_log2_self
  have hAB : A + m.log2 < n.log2 + 1 + B := by
    have h1 : 2 ^ (A + m.log2) ≤ m * 2 ^ A := by rw [Nat.pow_add, Nat.mul_comm]; exact Nat.mul_le_mul_right _ l1
    have h2 : n * 2 ^ B < 2 ^ (n.log2 + 1 + B) := by rw [Nat.pow_add]; exact Nat.mul_lt_mul_of_pos_right l2 (Nat.two_pow_pos B)
    exact (Nat.pow_lt_pow_iff_right (by omega)).1 (Nat.lt_of_le_of_lt h1 (Nat.lt_of_le_of_lt hz h2))
  have hA : A ≤ B + more := by omega
  have hq := quot_le m2 hz hA
  have hne : 2 * (m * 2 ^ more / n) + (m * 2 ^ more % n != 0).toNat ≠ 0 := by
    intro h0
    have hd := Nat.div_add_mod (m * 2 ^ more) n
    have h1 : m * 2 ^ more / n = 0 := by omega
    have h2 : (m * 2 ^ more % n != 0).toNat = 0 := by omega
    have h3 : m * 2 ^ more % n = 0 := by
      by_cases c : m * 2 ^ more % n = 0
      · exact c
      · simp [c] at h2
    rw [h1, h3] at hd
    have := Nat.mul_pos (Nat.pos_of_ne_zero m1) (Nat.two_pow_pos more)
    omega
  rw [nearest_eq _ _ _ hne]
  generalize 2 * (m * 2 ^ more / n) + (m * 2 ^ more % n != 0).toNat = mag at *
  have hn : near (mag * 2 ^ (-1074 + (A : Int) - (-1074 + (B : Int)) - (more : Int) - 1 + 1074).toNat) (2 ^ (-(-1074 + (A : Int) - (-1074 + (B : Int)) - (more : Int) - 1 + 1074)).toNat) ≤ r := by
    refine near_le (Nat.two_pow_pos _) ?_
    obtain ⟨sx, hs1, hs2⟩ := S_pow
    rw [hr, hs2, ← Nat.pow_add]
    refine Nat.le_trans (Nat.mul_le_mul_right _ hq) ?_
    rw [← Nat.pow_add]
    exact Nat.pow_le_pow_right (by omega) (by omega)
  rw [Nat.min_eq_left (by omega), word_F _ _ (by omega) (by simp)]
  refine ⟨_, rfl, ?_⟩
  have e : (if (false ^^ false) = true then -((near (mag * 2 ^ (-1074 + (A : Int) - (-1074 + (B : Int)) - (more : Int) - 1 + 1074).toNat) (2 ^ (-(-1074 + (A : Int) - (-1074 + (B : Int)) - (more : Int) - 1 + 1074)).toNat) : Nat) : Int) else ((near (mag * 2 ^ (-1074 + (A : Int) - (-1074 + (B : Int)) - (more : Int) - 1 + 1074).toNat) (2 ^ (-(-1074 + (A : Int) - (-1074 + (B : Int)) - (more : Int) - 1 + 1074)).toNat) : Nat) : Int)) = ((near (mag * 2 ^ (-1074 + (A : Int) - (-1074 + (B : Int)) - (more : Int) - 1 + 1074).toNat) (2 ^ (-(-1074 + (A : Int) - (-1074 + (B : Int)) - (more : Int) - 1 + 1074)).toNat) : Nat) : Int) := if_neg (by decide)
  rw [e, F.of_k (by omega)]
  omega
end Bu
