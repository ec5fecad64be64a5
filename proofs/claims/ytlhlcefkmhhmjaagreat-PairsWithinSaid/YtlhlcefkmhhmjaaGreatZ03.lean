/- Rounding to nearest, as the float operations do it, by the ladder. Plain arithmetic of wide numbers. The bits of a number, as Go's text takes them apart. -/
import Derived.Test.YtlhlcefkmhhmjaaGreatZ01
import Derived.Laws.BitsAll
import Derived.Lib.ItoaNum
import Derived.RowKit
import Derived.Laws.BitsLemmas
namespace Bu
set_option linter.all false
open Ieee

/-- the rung nearest to n / d (times S); of two the even one -/
def near (n d : Nat) : Nat :=
  let r := fl (n / d)
  if 2 * n < (nv r + nv (r + 1)) * d then r else if (nv r + nv (r + 1)) * d < 2 * n then r + 1 else if r % 2 = 0 then r else r + 1

/-- cut, with the gap as it stands -/
theorem cut_even (neg : Bool) (n drop : Nat) : Toward.even.cut neg n drop =
    n / 2 ^ drop + (if 2 ^ drop < 2 * (n % 2 ^ drop) || (2 ^ drop == 2 * (n % 2 ^ drop) && n / 2 ^ drop % 2 == 1) then 1 else 0) := by
  unfold Toward.cut
  simp only [Nat.shiftLeft_eq, Nat.one_mul]
  by_cases h : drop ≤ n.log2 + 2
  · rw [Nat.min_eq_left h]
    generalize 2 ^ drop = g
    by_cases c : (decide (g < 2 * (n % g)) || (g == 2 * (n % g) && n / g % 2 == 1)) = true
    · simp only [c, if_true]; rfl
    · simp only [c]; rfl
  · rw [Nat.min_eq_right (by omega)]
    have h1 := Nat.lt_log2_self (n := n)
    have h2 : 2 ^ (n.log2 + 2) = 2 * 2 ^ (n.log2 + 1) := by rw [Nat.pow_succ _ (n.log2 + 1), Nat.mul_comm]
    have h3 : 2 ^ (n.log2 + 2) ≤ 2 ^ drop := Nat.pow_le_pow_right (by omega) (by omega)
    generalize 2 ^ (n.log2 + 1) = u at *
    generalize 2 ^ (n.log2 + 2) = g at *
    generalize 2 ^ drop = k at *
    rw [Nat.div_eq_of_lt (by omega), Nat.mod_eq_of_lt (by omega), Nat.div_eq_of_lt (by omega), Nat.mod_eq_of_lt (by omega)]
    have a : ¬ g < 2 * n := by omega
    have b : (g == 2 * n) = false := by rw [beq_eq_false_iff_ne]; omega
    have c : ¬ k < 2 * n := by omega
    have d : (k == 2 * n) = false := by rw [beq_eq_false_iff_ne]; omega
    simp [a, b, c, d]
    rw [Nat.mod_eq_of_lt (by omega)]; omega

theorem near_mk {n d s m : Nat} (hd : 0 < d) (hm : m < 2 * P) (h2 : s = 0 ∨ P ≤ m) (h3 : m * 2 ^ s ≤ n / d) (h4 : n / d < (m + 1) * 2 ^ s) :
    near n d = if 2 * n < (2 * m + 1) * 2 ^ s * d then s * P + m else if (2 * m + 1) * 2 ^ s * d < 2 * n then s * P + m + 1 else if m % 2 = 0 then s * P + m else s * P + m + 1 := by
  unfold near
  simp only
  rw [fl_mk hm h2 h3 h4, nv_mk s m (by omega) h2, Nat.add_assoc (s * P), nv_mk s (m + 1) (by omega) (by omega)]
  have e : m * 2 ^ s + (m + 1) * 2 ^ s = (2 * m + 1) * 2 ^ s := by rw [← Nat.add_mul]; congr 1; omega
  rw [e]
  have e2 : (s * P + m) % 2 = m % 2 := by
    rw [show P = 2 * 2251799813685248 from rfl, ← Nat.mul_assoc, Nat.mul_comm s 2, Nat.mul_assoc]
    omega
  rw [e2]

theorem nearest_eq (neg : Bool) (mag : Nat) (place : Int) (hmag : mag ≠ 0) :
    double.nearest neg mag place = double.word neg (min (near (mag * 2 ^ (place + 1074).toNat) (2 ^ (-(place + 1074)).toNat)) T) := by
  unfold Format.nearest
  rw [if_neg hmag, dbl_bin, dbl_inf, dbl_least]
  simp only
  have hf : (double.fractionBits : Int) = 52 := rfl
  rw [hf]
  congr 2
  -- s: the last place, from the least one on
  obtain ⟨s, hs⟩ : ∃ s : Nat, max (place + (mag.log2 : Int) - 52) (-1074) = (s : Int) - 1074 := ⟨(max (place + (mag.log2 : Int) - 52) (-1074) + 1074).toNat, by omega⟩
  rw [hs]
  have e0 : ((s : Int) - 1074 - -1074).toNat = s := by omega
  rw [e0, cut_even]
  have hl := Nat.lt_log2_self (n := mag)
  have hl2 := Nat.log2_self_le hmag
  rw [Nat.shiftLeft_eq]
  -- the number, times S, is n / d
  obtain ⟨a, ha⟩ : ∃ a, a = (place + 1074).toNat := ⟨_, rfl⟩
  obtain ⟨b, hb⟩ : ∃ b, b = (-(place + 1074)).toNat := ⟨_, rfl⟩
  obtain ⟨u, hu⟩ : ∃ u, u = (place - ((s : Int) - 1074)).toNat := ⟨_, rfl⟩
  obtain ⟨v, hv⟩ : ∃ v, v = ((s : Int) - 1074 - place).toNat := ⟨_, rfl⟩
  rw [← ha, ← hb, ← hu, ← hv]
  -- u + s + b = a + v, and of u, v one is 0; of a, b one is 0
  have r1 : u + s + b = a + v := by omega
  have r2 : u = 0 ∨ v = 0 := by omega
  have r3 : a = 0 ∨ b = 0 := by omega
  -- q: what is kept; t: the rest
  have hg0 := Nat.two_pow_pos v
  have hq := Nat.div_add_mod (mag * 2 ^ u) (2 ^ v)
  have ht := Nat.mod_lt (mag * 2 ^ u) hg0
  generalize hq' : mag * 2 ^ u / 2 ^ v = q at *
  generalize mag * 2 ^ u % 2 ^ v = t at *
  have hd0 := Nat.two_pow_pos b
  -- n * 2^v = (2^v q + t) * 2^s * 2^b
  have hn : mag * 2 ^ a * 2 ^ v = (2 ^ v * q + t) * 2 ^ s * 2 ^ b := by
    rw [hq, Nat.mul_assoc mag, ← Nat.pow_add, ← r1, Nat.pow_add, Nat.pow_add]
    simp only [Nat.mul_assoc]
  generalize hN : mag * 2 ^ a = n at *
  have hqm : q < 2 * P ∧ (s = 0 ∨ P ≤ q) := by
    constructor
    · rw [← hq', Nat.div_lt_iff_lt_mul hg0]
      by_cases hu0 : u = 0
      · subst hu0
        rw [Nat.pow_zero, Nat.mul_one, show 2 * P = 2 ^ 53 from rfl, ← Nat.pow_add]
        exact Nat.lt_of_lt_of_le hl (Nat.pow_le_pow_right (by omega) (by omega))
      · have hv0 : v = 0 := by omega
        subst hv0
        rw [Nat.pow_zero, Nat.mul_one, show 2 * P = 2 ^ 53 from rfl]
        refine Nat.lt_of_lt_of_le (Nat.mul_lt_mul_of_pos_right hl (Nat.two_pow_pos u)) ?_
        rw [← Nat.pow_add]
        exact Nat.pow_le_pow_right (by omega) (by omega)
    · by_cases hs0 : s = 0
      · exact Or.inl hs0
      · right
        rw [← hq', Nat.le_div_iff_mul_le hg0]
        by_cases hu0 : u = 0
        · subst hu0
          rw [Nat.pow_zero, Nat.mul_one, P_eq, ← Nat.pow_add]
          exact Nat.le_trans (Nat.pow_le_pow_right (by omega) (by omega)) hl2
        · have hv0 : v = 0 := by omega
          subst hv0
          rw [Nat.pow_zero, Nat.mul_one, P_eq]
          refine Nat.le_trans ?_ (Nat.mul_le_mul_right (2 ^ u) hl2)
          rw [← Nat.pow_add]
          exact Nat.pow_le_pow_right (by omega) (by omega)
  have hs0 := Nat.two_pow_pos s
  generalize 2 ^ v = g at *
  generalize 2 ^ b = d at *
  generalize h2s : 2 ^ s = k at *
  have h3 : q * 2 ^ s ≤ n / d := by
    rw [h2s, Nat.le_div_iff_mul_le hd0]
    refine Nat.le_of_mul_le_mul_right ?_ hg0
    rw [hn, show q * k * d * g = g * q * k * d from by grind]
    exact Nat.mul_le_mul_right _ (Nat.mul_le_mul_right _ (by omega))
  have h4 : n / d < (q + 1) * 2 ^ s := by
    rw [h2s, Nat.div_lt_iff_lt_mul hd0]
    refine Nat.lt_of_mul_lt_mul_right (a := g) ?_
    rw [hn, show (q + 1) * k * d * g = (g * q + g) * k * d from by grind]
    exact Nat.mul_lt_mul_of_pos_right (Nat.mul_lt_mul_of_pos_right (by omega) hs0) hd0
  rw [near_mk hd0 hqm.1 hqm.2 h3 h4, h2s]
  -- compare 2 n with (2 q + 1) k d, times g
  have hkd : 0 < k * d := Nat.mul_pos hs0 hd0
  have c1 : 2 * n < (2 * q + 1) * k * d ↔ 2 * t < g := by
    rw [← Nat.mul_lt_mul_right hg0, Nat.mul_assoc 2, hn, show 2 * ((g * q + t) * k * d) = (2 * (g * q) + 2 * t) * (k * d) from by grind,
      show (2 * q + 1) * k * d * g = (2 * (g * q) + g) * (k * d) from by grind, Nat.mul_lt_mul_right hkd]
    omega
  have c2 : (2 * q + 1) * k * d < 2 * n ↔ g < 2 * t := by
    rw [← Nat.mul_lt_mul_right hg0, Nat.mul_assoc 2 n, hn, show 2 * ((g * q + t) * k * d) = (2 * (g * q) + 2 * t) * (k * d) from by grind,
      show (2 * q + 1) * k * d * g = (2 * (g * q) + g) * (k * d) from by grind, Nat.mul_lt_mul_right hkd]
    omega
  simp only [c1, c2]
  by_cases d1 : 2 * t < g
  · have : ¬ g < 2 * t := by omega
    have e : (g == 2 * t) = false := by rw [beq_eq_false_iff_ne]; omega
    simp [d1, this, e]
  · by_cases d2 : g < 2 * t
    · simp [d1, d2]; omega
    · have e : (g == 2 * t) = true := by rw [beq_iff_eq]; omega
      by_cases d3 : q % 2 = 0
      · simp [d1, d2, e, d3]
      · have d4 : q % 2 = 1 := by omega
        simp [d1, d2, e, d4]; omega

theorem near_exact {n d r : Nat} (hd : 0 < d) (h : n = nv r * d) : near n d = r := by
  unfold near
  subst h
  rw [Nat.mul_div_cancel _ hd, fl_nv]
  have h1 := nv_succ r
  have : 2 * (nv r * d) < (nv r + nv (r + 1)) * d := by
    rw [← Nat.mul_assoc]
    exact Nat.mul_lt_mul_of_pos_right (by omega) hd
  simp [this]

theorem word_F (neg : Bool) (r : Nat) (hr : r < T) (hz : neg = true → r ≠ 0) : double.word neg r = (F.of (if neg then -(r : Int) else r)).b := by
  unfold Format.word F.b
  rw [dbl_sign]
  cases neg
  · simp only [Bool.false_eq_true, if_false]
    rw [F.of_k (by omega)]; simp
  · simp only [if_true]
    rw [F.of_k (by omega), if_neg (by have := hz rfl; omega)]; omega

theorem near_ratio {n d n' d' : Nat} (hd : 0 < d) (hd' : 0 < d') (h : n * d' = n' * d) : near n d = near n' d' := by
  have e : n / d = n' / d' := by
    have h1 : n / d = n * d' / (d * d') := (Nat.mul_div_mul_right n d hd').symm
    have h2 : n' / d' = n' * d / (d' * d) := (Nat.mul_div_mul_right n' d' hd).symm
    rw [h1, h2, h, Nat.mul_comm d d']
  unfold near
  rw [e]
  simp only
  generalize nv (fl (n' / d')) + nv (fl (n' / d') + 1) = k
  have c1 : 2 * n < k * d ↔ 2 * n' < k * d' := by
    rw [← Nat.mul_lt_mul_right hd', ← Nat.mul_lt_mul_right hd, show 2 * n * d' = 2 * (n * d') from by grind, h, show 2 * (n' * d) = 2 * n' * d from by grind,
      show k * d * d' = k * d' * d from by grind, Nat.mul_lt_mul_right hd, Nat.mul_lt_mul_right hd]
  have c2 : k * d < 2 * n ↔ k * d' < 2 * n' := by
    rw [← Nat.mul_lt_mul_right hd', show 2 * n * d' = 2 * (n * d') from by grind, h, show 2 * (n' * d) = 2 * n' * d from by grind,
      show k * d * d' = k * d' * d from by grind, Nat.mul_lt_mul_right hd]
  simp only [c1, c2]

theorem z_natAbs (x : F) : x.z.natAbs = man x.k.natAbs * 2 ^ pl x.k.natAbs := by
  unfold F.z
  rw [nvZ_sign]
  by_cases h : x.k < 0 <;> simp [h, Int.natAbs_mul]

theorem z_sign (x : F) : (x.z < 0 ↔ x.k < 0) := by
  have := @nvZ_lt_iff x.k 0
  rw [nvZ_zero] at this
  exact this
theorem z_zero (x : F) : (x.z = 0 ↔ x.k = 0) := by
  constructor
  · intro h; exact nvZ_inj (by rw [nvZ_zero]; exact h)
  · intro h; unfold F.z; rw [h, nvZ_zero]

theorem man_zero (r : Nat) (h : man r = 0) : r = 0 := by
  unfold man at h
  have := P_pos
  split at h <;> omega

theorem S_pow : ∃ s : Nat, s = 1074 ∧ S = 2 ^ s := ⟨1074, rfl, S_eq⟩

theorem two_pow_split (a b : Int) (h : 0 ≤ a + b + 1074 ∨ a + b + 1074 < 0) (ha : -1074 ≤ a) (hb : -1074 ≤ b) :
    2 ^ (a + b + 1074).toNat * S = 2 ^ (a + 1074).toNat * 2 ^ (b + 1074).toNat * 2 ^ (-(a + b + 1074)).toNat := by
  obtain ⟨s, hs, e⟩ := S_pow
  rw [e, ← Nat.pow_add, ← Nat.pow_add, ← Nat.pow_add]
  exact congrArg (2 ^ ·) (by omega)

/-- '*' -/
theorem mul_F (x y : F) (hx : x.k ≠ 0) (hy : y.k ≠ 0) :
    double.mul x.b y.b = some (double.word (decide (x.k < 0) ^^ decide (y.k < 0)) (min (near (x.z.natAbs * y.z.natAbs) S) T)) := by
  unfold Format.mul
  rw [read_F, read_F]
  simp only [Datum.product, Option.map_some, Format.write]
  have m1 : man x.k.natAbs ≠ 0 := fun h => hx (by have := man_zero _ h; omega)
  have m2 : man y.k.natAbs ≠ 0 := fun h => hy (by have := man_zero _ h; omega)
  rw [nearest_eq _ _ _ (Nat.mul_ne_zero m1 m2)]
  have e : near (man x.k.natAbs * man y.k.natAbs * 2 ^ (-1074 + (pl x.k.natAbs : Int) + (-1074 + (pl y.k.natAbs : Int)) + 1074).toNat) (2 ^ (-(-1074 + (pl x.k.natAbs : Int) + (-1074 + (pl y.k.natAbs : Int)) + 1074)).toNat) = near (x.z.natAbs * y.z.natAbs) S := by
    refine near_ratio (Nat.two_pow_pos _) S_pos ?_
    rw [z_natAbs, z_natAbs]
    have := two_pow_split (-1074 + (pl x.k.natAbs : Int)) (-1074 + (pl y.k.natAbs : Int)) (by omega) (by omega) (by omega)
    rw [show (-1074 + (pl x.k.natAbs : Int) + 1074).toNat = pl x.k.natAbs from by omega, show (-1074 + (pl y.k.natAbs : Int) + 1074).toNat = pl y.k.natAbs from by omega] at this
    rw [Nat.mul_assoc, this]
    generalize 2 ^ pl x.k.natAbs = a
    generalize 2 ^ pl y.k.natAbs = b
    grind
  rw [e]

theorem signed_scale (neg : Bool) (m : Nat) (i base : Int) (hb : -1074 ≤ base) (h : base ≤ i) :
    signed neg m (i - base).toNat * ((2 ^ (base + 1074).toNat : Nat) : Int) = (if neg then -1 else 1) * ((m * 2 ^ (i + 1074).toNat : Nat) : Int) := by
  rw [signed_eq, Int.mul_assoc, ← Int.natCast_mul, Nat.mul_assoc, ← Nat.pow_add, show (i - base).toNat + (base + 1074).toNat = (i + 1074).toNat from by omega]

/-- '+' -/
theorem add_F (x y : F) : double.add x.b y.b = some (if x.z + y.z = 0 then 0 else double.word (decide (x.z + y.z < 0)) (min (near (x.z + y.z).natAbs 1) T)) := by
  unfold Format.add
  rw [read_F, read_F]
  simp only [Datum.sum, Option.map_some, Format.write]
  obtain ⟨base, hbase⟩ : ∃ b : Int, b = min (-1074 + (pl x.k.natAbs : Int)) (-1074 + (pl y.k.natAbs : Int)) := ⟨_, rfl⟩
  rw [← hbase]
  have s1 := signed_scale (decide (x.k < 0)) (man x.k.natAbs) (-1074 + (pl x.k.natAbs : Int)) base (by omega) (by omega)
  have s2 := signed_scale (decide (y.k < 0)) (man y.k.natAbs) (-1074 + (pl y.k.natAbs : Int)) base (by omega) (by omega)
  rw [show (-1074 + (pl x.k.natAbs : Int) + 1074).toNat = pl x.k.natAbs from by omega, ← nvZ_sign] at s1
  rw [show (-1074 + (pl y.k.natAbs : Int) + 1074).toNat = pl y.k.natAbs from by omega, ← nvZ_sign] at s2
  generalize signed (decide (x.k < 0)) (man x.k.natAbs) (-1074 + (pl x.k.natAbs : Int) - base).toNat = u at *
  generalize signed (decide (y.k < 0)) (man y.k.natAbs) (-1074 + (pl y.k.natAbs : Int) - base).toNat = v at *
  have hp := Nat.two_pow_pos (base + 1074).toNat
  have hz : x.z + y.z = (u + v) * ((2 ^ (base + 1074).toNat : Nat) : Int) := by
    unfold F.z; rw [Int.add_mul, s1, s2]
  have hpos : (0 : Int) < ((2 ^ (base + 1074).toNat : Nat) : Int) := by omega
  have t1 : x.z + y.z = 0 ↔ u + v = 0 := by
    rw [hz]; constructor
    · intro h; rcases Int.mul_eq_zero.1 h with h | h
      · exact h
      · omega
    · intro h; rw [h, Int.zero_mul]
  have t2 : x.z + y.z < 0 ↔ u + v < 0 := by
    rw [hz]
    have := Int.mul_lt_mul_right (b := u + v) (c := 0) hpos
    rw [Int.zero_mul] at this
    exact this
  by_cases h0 : u + v = 0
  · rw [if_pos (t1.2 h0)]
    have hx0 : (decide (x.k < 0) && decide (y.k < 0)) = false := by
      rw [Bool.and_eq_false_iff]
      simp only [decide_eq_false_iff_not]
      have a1 := z_sign x
      have a2 := z_sign y
      have := t1.2 h0
      omega
    rw [h0]
    simp [hx0, Format.nearest, Format.word]
  · rw [if_neg (fun h => h0 (t1.1 h)), if_neg h0, nearest_eq _ _ _ (by omega)]
    simp only [t2]
    have e : near ((u + v).natAbs * 2 ^ (base + 1074).toNat) (2 ^ (-(base + 1074)).toNat) = near (x.z + y.z).natAbs 1 := by
      refine near_ratio (Nat.two_pow_pos _) (by omega) ?_
      rw [hz, Int.natAbs_mul, Int.natAbs_natCast, show (-(base + 1074)).toNat = 0 from by omega]
    rw [e]

/-- 'float64(n)' -/
theorem ofInt_F (n : Int) (h : n ≠ 0) : double.write (.number (decide (n < 0)) n.natAbs 0) = double.word (decide (n < 0)) (min (near (n.natAbs * S) 1) T) := by
  simp only [Format.write]
  rw [nearest_eq _ _ _ (by omega)]
  have e : near (n.natAbs * 2 ^ ((0 : Int) + 1074).toNat) (2 ^ (-((0 : Int) + 1074)).toNat) = near (n.natAbs * S) 1 := by
    refine near_ratio (Nat.two_pow_pos _) (by omega) ?_
    obtain ⟨s, hs, e⟩ := S_pow
    rw [e, show ((0 : Int) + 1074).toNat = s from by omega, show (-((0 : Int) + 1074)).toNat = 0 from by omega]
  rw [e]

/-- -x -/
def F.neg (x : F) : F := ⟨-x.k, by have := x.hk; omega⟩
theorem F.neg_z (x : F) : x.neg.z = -x.z := nvZ_neg x.k

theorem word_sign (p : F) (h : p.k ≠ 0) : double.word (decide (p.k < 0)) p.k.natAbs = p.b := by
  have h1 := p.hk
  rw [word_F _ _ (by omega) (by simp; omega)]
  congr 1
  apply F.ext'
  by_cases h2 : p.k < 0
  · simp only [h2, decide_true, if_true]; rw [F.of_k (by omega)]; omega
  · simp only [h2, decide_false, Bool.false_eq_true, if_false]; rw [F.of_k (by omega)]; omega

theorem z_natAbs' (x : F) : x.z.natAbs = nv x.k.natAbs := z_natAbs x

/-- an exact product -/
theorem mul_exact {x y p : F} (hp : p.k ≠ 0) (h : p.z * S = x.z * y.z) : double.mul x.b y.b = some p.b := by
  have hS : (0 : Int) < S := by have := S_pos; omega
  have hpz : p.z ≠ 0 := fun e => hp ((z_zero p).1 e)
  have hxy : x.z * y.z ≠ 0 := by
    rw [← h]; intro e; rcases Int.mul_eq_zero.1 e with e | e
    · exact hpz e
    · omega
  have hx : x.k ≠ 0 := fun e => hxy (by rw [(z_zero x).2 e, Int.zero_mul])
  have hy : y.k ≠ 0 := fun e => hxy (by rw [(z_zero y).2 e, Int.mul_zero])
  rw [mul_F x y hx hy, ← Int.natAbs_mul, ← h, Int.natAbs_mul, Int.natAbs_natCast, z_natAbs', near_exact S_pos rfl, Nat.min_eq_left (by have := p.hk; omega), ← word_sign p hp]
  congr 2
  have a1 := z_sign x
  have a2 := z_sign y
  have a3 := z_sign p
  have a4 := (z_zero x)
  have a5 := (z_zero y)
  have s1 : p.z < 0 ↔ x.z * y.z < 0 := by
    rw [← h]
    have := Int.mul_lt_mul_right (b := p.z) (c := 0) hS
    rw [Int.zero_mul] at this
    exact this.symm
  rw [Bool.eq_iff_iff]
  by_cases b1 : x.k < 0 <;> by_cases b2 : y.k < 0
  · have := Int.mul_pos_of_neg_of_neg (a1.2 b1) (a2.2 b2)
    simp [b1, b2]; omega
  · have := Int.mul_neg_of_neg_of_pos (a1.2 b1) (show 0 < y.z by omega)
    simp [b1, b2]; omega
  · have := Int.mul_neg_of_pos_of_neg (show 0 < x.z by omega) (a2.2 b2)
    simp [b1, b2]; omega
  · have := Int.mul_pos (show 0 < x.z by omega) (show 0 < y.z by omega)
    simp [b1, b2]; omega

/-- an integer that is a number -/
theorem ofInt_exact {n : Int} {p : F} (h : p.z = n * S) : double.write (.number (decide (n < 0)) n.natAbs 0) = p.b := by
  have hS : (0 : Int) < S := by have := S_pos; omega
  by_cases h0 : n = 0
  · subst h0
    rw [Int.zero_mul] at h
    have : p = F.zero := F.ext' ((z_zero p).1 h)
    subst this
    decide
  · rw [ofInt_F n h0]
    have hp : p.k ≠ 0 := by
      intro e
      rw [(z_zero p).2 e] at h
      rcases Int.mul_eq_zero.1 h.symm with e2 | e2
      · exact h0 e2
      · omega
    have e1 : n.natAbs * S = nv p.k.natAbs * 1 := by rw [← z_natAbs', h, Int.natAbs_mul, Int.natAbs_natCast]; simp
    rw [near_exact (by omega) e1, Nat.min_eq_left (by have := p.hk; omega), ← word_sign p hp]
    congr 1
    have s1 : p.z < 0 ↔ n < 0 := by
      rw [h]
      have := Int.mul_lt_mul_right (b := n) (c := 0) hS
      rw [Int.zero_mul] at this
      exact this
    have := z_sign p
    rw [Bool.eq_iff_iff]; simp; omega
end Bu
namespace Bu
set_option linter.all false
open Go

/-- a wide number -/
def wn (a b : Int) : Nat := a.toNat * 18446744073709551616 + b.toNat
def hi (n : Nat) : Int := ((n / 18446744073709551616 : Nat) : Int)
def lo (n : Nat) : Int := ((n % 18446744073709551616 : Nat) : Int)
def W128 : Nat := 340282366920938463463374607431768211456
theorem W128_eq : W128 = 340282366920938463463374607431768211456 := rfl

theorem up_parts (x y n : Nat) (hn : n ≤ 64) (hy : y < 18446744073709551616) :
    (x * 18446744073709551616 + y) * 2 ^ n % W128 / 18446744073709551616 = x * 2 ^ n % 18446744073709551616 + y / 2 ^ (64 - n)
    ∧ (x * 18446744073709551616 + y) * 2 ^ n % W128 % 18446744073709551616 = y * 2 ^ n % 18446744073709551616
    ∧ x * 2 ^ n % 18446744073709551616 % 2 ^ n = 0 ∧ y / 2 ^ (64 - n) < 2 ^ n ∧ x * 2 ^ n % 18446744073709551616 + y / 2 ^ (64 - n) < 18446744073709551616 := by
  rw [W128_eq]
  have hpq : 2 ^ n * 2 ^ (64 - n) = 18446744073709551616 := by
    rw [← Nat.pow_add, show n + (64 - n) = 64 from by omega]
  generalize hq : 2 ^ n = q at *
  generalize hp : 2 ^ (64 - n) = p at *
  have hp0 : 0 < p := by rw [← hp]; exact Nat.two_pow_pos _
  have hq0 : 0 < q := by rw [← hq]; exact Nat.two_pow_pos _
  have hd := Nat.div_add_mod y p
  have hm := Nat.mod_lt y hp0
  generalize y / p = u at *
  generalize y % p = v at *
  have hxd := Nat.div_add_mod x p
  have hxm := Nat.mod_lt x hp0
  generalize x / p = s at *
  generalize x % p = t at *
  have hu : u < q := by
    have : p * u < q * p := by omega
    rw [Nat.mul_comm p u] at this
    exact Nat.lt_of_mul_lt_mul_right this
  have e1 : x * q = s * 18446744073709551616 + t * q := by
    rw [← hxd, ← hpq]; grind
  have ht : t * q + q ≤ 18446744073709551616 := by
    rw [← hpq]
    have : (t + 1) * q ≤ p * q := Nat.mul_le_mul_right _ (by omega)
    rw [Nat.add_mul, Nat.one_mul, Nat.mul_comm p q] at this
    exact this
  have e2 : y * q = u * 18446744073709551616 + v * q := by
    rw [← hd, ← hpq]; grind
  have hv : v * q < 18446744073709551616 := by
    rw [← hpq, Nat.mul_comm q p]
    exact Nat.mul_lt_mul_of_pos_right hm hq0
  have e3 : (x * 18446744073709551616 + y) * q = (s * 18446744073709551616 + t * q) * 18446744073709551616 + u * 18446744073709551616 + v * q := by
    rw [Nat.add_mul, e2, ← e1]; grind
  rw [e3, e1, e2]
  have hmod : t * q % q = 0 := Nat.mul_mod_left _ _
  generalize t * q = tq at *
  generalize v * q = vq at *
  have e4 : (s * 18446744073709551616 + tq) % 18446744073709551616 = tq := by omega
  rw [e4]
  refine ⟨?_, ?_, hmod, hu, ?_⟩ <;> omega

theorem up_arith_hi (a b : Int) (n : Nat) (ha : 0 ≤ a) (hb : 0 ≤ b) (hn : 64 ≤ n) :
    IntKind.u64.wrap (b * 2 ^ (n - 64)) = hi (wn a b * 2 ^ n % W128) ∧ 0 = lo (wn a b * 2 ^ n % W128) := by
  obtain ⟨x, rfl⟩ := Int.eq_ofNat_of_zero_le ha
  obtain ⟨y, rfl⟩ := Int.eq_ofNat_of_zero_le hb
  obtain ⟨k, rfl⟩ : ∃ k, n = 64 + k := ⟨n - 64, by omega⟩
  rw [W128_eq]
  have e : wn x y * 2 ^ (64 + k) = (x * 2 ^ k) * 340282366920938463463374607431768211456 + (y * 2 ^ k) * 18446744073709551616 := by
    unfold wn
    simp only [Int.toNat_natCast]
    rw [Nat.pow_add, show (2 : Nat) ^ 64 = 18446744073709551616 from rfl]
    generalize 2 ^ k = p
    grind
  rw [e, IntKind.wrap_u64, show 64 + k - 64 = k from by omega]
  unfold hi lo
  have e2 : (y : Int) * 2 ^ k = ((y * 2 ^ k : Nat) : Int) := by simp
  rw [e2]
  generalize y * 2 ^ k = p
  generalize x * 2 ^ k = q
  omega

theorem up_arith_lo (a b : Int) (n : Nat) (ha : 0 ≤ a) (hb : 0 ≤ b) (hb2 : b ≤ 18446744073709551615) (hn : n < 64) :
    bits BinOp.or IntKind.u64 (IntKind.u64.wrap (a * 2 ^ n)) (b / 2 ^ (64 - n)) = hi (wn a b * 2 ^ n % W128) ∧ IntKind.u64.wrap (b * 2 ^ n) = lo (wn a b * 2 ^ n % W128) := by
  obtain ⟨x, rfl⟩ := Int.eq_ofNat_of_zero_le ha
  obtain ⟨y, rfl⟩ := Int.eq_ofNat_of_zero_le hb
  obtain ⟨h1, h2, h3, h4, h5⟩ := up_parts x y n (by omega) (by omega)
  unfold hi lo wn
  simp only [Int.toNat_natCast]
  rw [h1, h2, IntKind.wrap_u64, IntKind.wrap_u64]
  have e1 : (x : Int) * 2 ^ n % 18446744073709551616 = ((x * 2 ^ n % 18446744073709551616 : Nat) : Int) := by simp
  have e2 : (y : Int) * 2 ^ n % 18446744073709551616 = ((y * 2 ^ n % 18446744073709551616 : Nat) : Int) := by simp
  have e3 : (y : Int) / 2 ^ (64 - n) = ((y / 2 ^ (64 - n) : Nat) : Int) := by simp
  rw [e1, e2, e3, u64_or_nat _ _ (by omega) (by omega), nat_join n _ _ h3 h4]
  exact ⟨rfl, rfl⟩

theorem dm (u w z p : Nat) (h : w + p ≤ 18446744073709551616) (h2 : z < p) : (u * 18446744073709551616 + w + z) / 18446744073709551616 = u ∧ (u * 18446744073709551616 + w + z) % 18446744073709551616 = z + w := by
  constructor <;> omega
theorem dn_parts (x y n : Nat) (hn : n < 64) (hx : x < 18446744073709551616) (hy : y < 18446744073709551616) :
    (x * 18446744073709551616 + y) / 2 ^ n / 18446744073709551616 = x / 2 ^ n
    ∧ (x * 18446744073709551616 + y) / 2 ^ n % 18446744073709551616 = y / 2 ^ n + x * 2 ^ (64 - n) % 18446744073709551616
    ∧ x * 2 ^ (64 - n) % 18446744073709551616 % 2 ^ (64 - n) = 0 ∧ y / 2 ^ n < 2 ^ (64 - n) := by
  have hpq : 2 ^ n * 2 ^ (64 - n) = 18446744073709551616 := by
    rw [← Nat.pow_add, show n + (64 - n) = 64 from by omega]
  generalize hq : 2 ^ n = q at *
  generalize hp : 2 ^ (64 - n) = p at *
  have hp0 : 0 < p := by rw [← hp]; exact Nat.two_pow_pos _
  have hq0 : 0 < q := by rw [← hq]; exact Nat.two_pow_pos _
  have hd := Nat.div_add_mod x q
  have hm := Nat.mod_lt x hq0
  have hyq : y / q < p := by
    rw [Nat.div_lt_iff_lt_mul hq0, Nat.mul_comm]; omega
  generalize x / q = u at *
  generalize x % q = v at *
  -- x = q u + v;  (x 2^64 + y) / q = (q u + v) p + y / q
  have e : (x * 18446744073709551616 + y) / q = x * p + y / q := by
    rw [← hpq, show x * (q * p) + y = q * (x * p) + y from by grind, Nat.mul_add_div hq0]
  rw [e]
  have e1 : x * p = u * 18446744073709551616 + v * p := by rw [← hd, ← hpq]; grind
  have hv : v * p + p ≤ 18446744073709551616 := by
    rw [← hpq]
    have : (v + 1) * p ≤ q * p := Nat.mul_le_mul_right _ (by omega)
    rw [Nat.add_mul, Nat.one_mul] at this
    exact this
  have hmod : v * p % p = 0 := Nat.mul_mod_left _ _
  rw [e1]
  generalize v * p = w at *
  generalize y / q = z at *
  have e4 : (u * 18446744073709551616 + w) % 18446744073709551616 = w := by omega
  rw [e4]
  obtain ⟨k1, k2⟩ := dm u w z p (by omega) hyq
  exact ⟨k1, k2, hmod, hyq⟩

theorem dn_arith_lo (a b : Int) (n : Nat) (ha : 0 ≤ a) (ha2 : a ≤ 18446744073709551615) (hb : 0 ≤ b) (hb2 : b ≤ 18446744073709551615) (hn : n < 64) :
    a / 2 ^ n = hi (wn a b / 2 ^ n) ∧ bits BinOp.or IntKind.u64 (b / 2 ^ n) (IntKind.u64.wrap (a * 2 ^ (64 - n))) = lo (wn a b / 2 ^ n) := by
  obtain ⟨x, rfl⟩ := Int.eq_ofNat_of_zero_le ha
  obtain ⟨y, rfl⟩ := Int.eq_ofNat_of_zero_le hb
  obtain ⟨h1, h2, h3, h4⟩ := dn_parts x y n hn (by omega) (by omega)
  unfold hi lo wn
  simp only [Int.toNat_natCast]
  rw [h1, h2, IntKind.wrap_u64]
  have e1 : (x : Int) * 2 ^ (64 - n) % 18446744073709551616 = ((x * 2 ^ (64 - n) % 18446744073709551616 : Nat) : Int) := by simp
  have e2 : (x : Int) / 2 ^ n = ((x / 2 ^ n : Nat) : Int) := by simp
  have e3 : (y : Int) / 2 ^ n = ((y / 2 ^ n : Nat) : Int) := by simp
  have e5 : y / 2 ^ n ≤ y := Nat.div_le_self _ _
  rw [e1, e2, e3, u64_or_nat _ _ (by omega) (by omega), Nat.or_comm, nat_join (64 - n) _ _ h3 h4, Nat.add_comm]
  exact ⟨rfl, rfl⟩

theorem dn_arith_hi (a b : Int) (n : Nat) (ha : 0 ≤ a) (ha2 : a ≤ 18446744073709551615) (hb : 0 ≤ b) (hb2 : b ≤ 18446744073709551615) (hn : 64 ≤ n) :
    0 = hi (wn a b / 2 ^ n) ∧ a / 2 ^ (n - 64) = lo (wn a b / 2 ^ n) := by
  obtain ⟨x, rfl⟩ := Int.eq_ofNat_of_zero_le ha
  obtain ⟨y, rfl⟩ := Int.eq_ofNat_of_zero_le hb
  obtain ⟨k, rfl⟩ : ∃ k, n = 64 + k := ⟨n - 64, by omega⟩
  unfold hi lo wn
  simp only [Int.toNat_natCast]
  rw [show 64 + k - 64 = k from by omega]
  have e : (x * 18446744073709551616 + y) / 2 ^ (64 + k) = x / 2 ^ k := by
    rw [Nat.pow_add, ← Nat.div_div_eq_div_mul, show (2 : Nat) ^ 64 = 18446744073709551616 from rfl, show (x * 18446744073709551616 + y) / 18446744073709551616 = x from by omega]
  rw [e]
  have e3 : (x : Int) / 2 ^ k = ((x / 2 ^ k : Nat) : Int) := by simp
  rw [e3]
  have := Nat.div_le_self x (2 ^ k)
  generalize x / 2 ^ k = z at *
  clear e e3
  omega

theorem wn_lt (a b : Int) (ha2 : a ≤ 18446744073709551615) (hb2 : b ≤ 18446744073709551615) : wn a b < W128 := by
  unfold wn; rw [W128_eq]; omega
theorem wn_hi_lo (n : Nat) : wn (hi n) (lo n) = n := by unfold wn hi lo; omega
theorem hi_nonneg (n : Nat) : 0 ≤ hi n := by unfold hi; omega
theorem lo_nonneg (n : Nat) : 0 ≤ lo n := by unfold lo; omega
theorem lo_le (n : Nat) : lo n ≤ 18446744073709551615 := by unfold lo; omega
theorem hi_le (n : Nat) (h : n < W128) : hi n ≤ 18446744073709551615 := by unfold hi; rw [W128_eq] at h; omega

theorem dn_arith_all (a b : Int) (n : Nat) (ha : 0 ≤ a) (ha2 : a ≤ 18446744073709551615) (hb : 0 ≤ b) (hb2 : b ≤ 18446744073709551615) (hn : 128 ≤ n) :
    0 = hi (wn a b / 2 ^ n) ∧ 0 = lo (wn a b / 2 ^ n) ∧ (!a == 0 || !b == 0) = decide (wn a b % 2 ^ n ≠ 0) := by
  have h1 := wn_lt a b ha2 hb2
  have h2 : W128 ≤ 2 ^ n := by
    rw [show W128 = 2 ^ 128 from rfl]
    exact Nat.pow_le_pow_right (by omega) hn
  rw [Nat.div_eq_of_lt (by omega), Nat.mod_eq_of_lt (by omega)]
  refine ⟨rfl, rfl, ?_⟩
  rw [Bool.eq_iff_iff]
  have e : wn a b = a.toNat * 18446744073709551616 + b.toNat := rfl
  simp only [Bool.or_eq_true, Bool.not_eq_true', beq_eq_false_iff_ne, ne_eq, decide_eq_true_eq]
  omega

/-- bits are lost just if what goes up again is another one -/
theorem lost_iff (a b : Int) (n : Nat) (ha : 0 ≤ a) (ha2 : a ≤ 18446744073709551615) (hb : 0 ≤ b) (hb2 : b ≤ 18446744073709551615) :
    (!(hi (wn a b / 2 ^ n * 2 ^ n % W128) == a) || !(lo (wn a b / 2 ^ n * 2 ^ n % W128) == b)) = decide (wn a b % 2 ^ n ≠ 0) := by
  have hlt := wn_lt a b ha2 hb2
  have hd := Nat.div_add_mod (wn a b) (2 ^ n)
  have hle : wn a b / 2 ^ n * 2 ^ n ≤ wn a b := Nat.div_mul_le_self _ _
  rw [Nat.mod_eq_of_lt (by omega), Bool.eq_iff_iff]
  simp only [Bool.or_eq_true, Bool.not_eq_true', beq_eq_false_iff_ne, ne_eq, decide_eq_true_eq]
  rw [Nat.mul_comm] at hd
  generalize wn a b / 2 ^ n * 2 ^ n = u at *
  generalize wn a b % 2 ^ n = v at *
  have e : wn a b = a.toNat * 18446744073709551616 + b.toNat := rfl
  unfold hi lo
  omega

/-- how many bits a number has -/
def blen (n : Nat) : Nat := if n = 0 then 0 else n.log2 + 1

theorem blen_of {n k : Nat} (h1 : 2 ^ k ≤ n) (h2 : n < 2 ^ (k + 1)) : blen n = k + 1 := by
  have h0 : n ≠ 0 := by have := Nat.two_pow_pos k; omega
  unfold blen
  rw [if_neg h0]
  have e : n.log2 = k := (Nat.log2_eq_iff h0).2 ⟨h1, h2⟩
  rw [e]

theorem lib_blen (n : Nat) (h : n < 18446744073709551616) : Lib.bitLen n = blen n := by
  by_cases h0 : n = 0
  · subst h0; rfl
  · obtain ⟨h1, h2, h3⟩ := Lib.bitLenAux_bounds 64 n h h0
    unfold Lib.bitLen
    obtain ⟨k, hk⟩ : ∃ k, Lib.bitLenAux 64 n = k + 1 := ⟨Lib.bitLenAux 64 n - 1, by omega⟩
    rw [hk] at h2 h3 ⊢
    rw [blen_of (k := k) (by simpa using h2) h3]

theorem blen_wn (x y : Nat) (hy : y < 18446744073709551616) : blen (wn (x : Int) (y : Int)) = if x > 0 then 64 + blen x else blen y := by
  unfold wn
  simp only [Int.toNat_natCast]
  by_cases h : x > 0
  · rw [if_pos h]
    have h0 : x ≠ 0 := by omega
    have a1 := Nat.lt_log2_self (n := x)
    have a2 := Nat.log2_self_le h0
    have e : blen x = x.log2 + 1 := by unfold blen; rw [if_neg h0]
    rw [e, blen_of (k := x.log2 + 64)]
    · omega
    · rw [Nat.pow_add, show (2 : Nat) ^ 64 = 18446744073709551616 from rfl]
      generalize 2 ^ x.log2 = u at *
      omega
    · rw [show x.log2 + 64 + 1 = (x.log2 + 1) + 64 from by omega, Nat.pow_add _ _ 64, show (2 : Nat) ^ 64 = 18446744073709551616 from rfl]
      generalize 2 ^ (x.log2 + 1) = u at *
      omega
  · have : x = 0 := by omega
    subst this
    simp

theorem blen_le {n k : Nat} (h : n < 2 ^ k) : blen n ≤ k := by
  unfold blen
  split
  · omega
  · rename_i h0
    have := (Nat.log2_lt h0).2 h
    omega
theorem blen_wn_le (a b : Int) (ha2 : a ≤ 18446744073709551615) (hb2 : b ≤ 18446744073709551615) : blen (wn a b) ≤ 128 :=
  blen_le (wn_lt a b ha2 hb2)

/-- how many places are cut off -/
def cutN (n : Nat) (e : Int) : Nat := max (blen n - 53) (-1074 - e).toNat
theorem lt_blen (n : Nat) : n < 2 ^ blen n := by
  unfold blen
  split
  · omega
  · exact Nat.lt_log2_self
theorem cut_lt (n : Nat) (e : Int) : n / 2 ^ cutN n e < 9007199254740992 := by
  rw [Nat.div_lt_iff_lt_mul (Nat.two_pow_pos _), show 9007199254740992 = 2 ^ 53 from rfl, ← Nat.pow_add]
  refine Nat.lt_of_lt_of_le (lt_blen n) (Nat.pow_le_pow_right (by omega) ?_)
  unfold cutN; omega
end Bu
namespace Bu
set_option linter.all false
open Go Go.RowKit

theorem and_mask (x n : Nat) (hx : x < 18446744073709551616) (hn : n ≤ 63) : bits BinOp.and IntKind.u64 (x : Int) (((2 ^ n - 1 : Nat) : Int)) = ((x % 2 ^ n : Nat) : Int) := by
  have h1 : 2 ^ n ≤ 2 ^ 63 := Nat.pow_le_pow_right (by omega) hn
  rw [u64_and_nat _ _ hx (by omega), Nat.and_two_pow_sub_one_eq_mod]

/-- the bits of a number: fraction, exponent -/
theorem b_parts (x : F) : x.b % P = x.k.natAbs % P ∧ x.b / P % 2048 = x.k.natAbs / P ∧ x.k.natAbs / P < 2047 := by
  have h1 := x.hk
  have e := T_num
  unfold F.b P
  split <;> omega

theorem b_frac (x : F) : bits BinOp.and IntKind.u64 (x.b : Int) 4503599627370495 = ((x.k.natAbs % P : Nat) : Int) := by
  have h := and_mask x.b 52 (by have := x.b_lt; omega) (by omega)
  rw [show ((2 ^ 52 - 1 : Nat) : Int) = 4503599627370495 from by decide, ← P_eq, (b_parts x).1] at h
  exact h
theorem b_exp (x : F) : bits BinOp.and IntKind.u64 ((x.b : Int) / 4503599627370496) 2047 = ((x.k.natAbs / P : Nat) : Int) := by
  have h := and_mask (x.b / P) 11 (by have := x.b_lt; have := Nat.div_le_self x.b P; omega) (by omega)
  rw [show ((2 ^ 11 - 1 : Nat) : Int) = 2047 from by decide, show 2 ^ 11 = 2048 from rfl, (b_parts x).2.1] at h
  rw [show (x.b : Int) / 4503599627370496 = ((x.b / P : Nat) : Int) from by rw [P]; omega]
  exact h
theorem or_hid (x : Nat) : bits BinOp.or IntKind.u64 ((x % P : Nat) : Int) 4503599627370496 = ((P + x % P : Nat) : Int) := by
  have h1 : x % P < P := Nat.mod_lt _ P_pos
  have e : P = 4503599627370496 := rfl
  have h := u64_or_nat (x % P) 4503599627370496 (by omega) (by omega)
  rw [Nat.or_comm, nat_join 52 4503599627370496 (x % P) (by decide) (by rw [← P_eq]; exact h1)] at h
  rw [show ((4503599627370496 : Int)) = ((4503599627370496 : Nat) : Int) from rfl, h]
  rfl

theorem i64_and_nat (a b : Nat) (ha : a < 9223372036854775808) (hb : b < 9223372036854775808) : bits .and .i64 (a : Int) (b : Int) = ((a &&& b : Nat) : Int) := by
  have hx : a &&& b < 2 ^ 63 := Nat.and_lt_two_pow _ (by omega)
  show IntKind.i64.wrap ((BitVec.ofInt 64 (a : Int) &&& BitVec.ofInt 64 (b : Int)).toNat : Int) = _
  rw [BitVec.toNat_and, ofInt_u64 a (by omega), ofInt_u64 b (by omega)]
  rw [IntKind.wrap_i64]
  omega

theorem b_exp_i (x : F) : bits BinOp.and IntKind.i64 (wrap64 ((x.b : Int) / 4503599627370496)) 2047 = ((x.k.natAbs / P : Nat) : Int) := by
  have hlt := x.b_lt
  have e : P = 4503599627370496 := rfl
  have h := i64_and_nat (x.b / P) 2047 (by rw [e]; omega) (by omega)
  rw [show (2047 : Nat) = 2 ^ 11 - 1 from rfl, Nat.and_two_pow_sub_one_eq_mod, show 2 ^ 11 = 2048 from rfl, (b_parts x).2.1] at h
  rw [show wrap64 ((x.b : Int) / 4503599627370496) = ((x.b / P : Nat) : Int) from by rw [e]; unfold wrap64; omega]
  exact h

/-- a number of the sign of another one, of a rung -/
def F.like (x : F) (r : Nat) : F := F.of (if x.k < 0 then -(r : Int) else r)
theorem F.like_b (x : F) (r : Nat) (h0 : r ≠ 0) (h : r < T) : (x.like r).b = (if x.k < 0 then 9223372036854775808 else 0) + r := by
  unfold F.like F.b
  by_cases hx : x.k < 0
  · simp only [if_pos hx]; rw [F.of_k (by omega), if_neg (by omega)]; omega
  · simp only [if_neg hx]; rw [F.of_k (by omega), if_pos (by omega)]; omega
theorem F.like_z (x : F) (r : Nat) (h : r < T) : (x.like r).z = if x.k < 0 then -(nv r : Int) else nv r := by
  unfold F.like F.z
  rw [F.of_k (by split <;> omega)]
  by_cases hx : x.k < 0
  · simp only [if_pos hx]; rw [nvZ_neg, nvZ_natCast]
  · simp only [if_neg hx]; rw [nvZ_natCast]
theorem F.z_like (x : F) : x.z = if x.k < 0 then -(nv x.k.natAbs : Int) else nv x.k.natAbs := by
  have h1 := z_natAbs' x
  have h2 := z_sign x
  split <;> omega

theorem b_sign (x : F) : x.b / 9223372036854775808 % 2 * 9223372036854775808 = if x.k < 0 then 9223372036854775808 else 0 := by
  have h1 := x.hk
  have e := T_num
  unfold F.b
  split <;> split <;> omega

theorem ldexp_bits (x : F) (f : Nat) (h1 : 1 ≤ f) (h2 : f ≤ 2046) :
    bits BinOp.or IntKind.u64 (bits BinOp.andNot IntKind.u64 (x.b : Int) 9218868437227405312) (IntKind.u64.wrap ((f : Int) * 4503599627370496)) = ((x.like (f * P + x.k.natAbs % P)).b : Int) := by
  have hlt := x.b_lt
  have eP : P = 4503599627370496 := rfl
  have eT := T_num
  have hm := Nat.mod_lt x.k.natAbs P_pos
  have a1 := u64_andNot_nat x.b 9218868437227405312 (by omega) (by omega)
  rw [show (18446744073709551615 - 9218868437227405312 : Nat) = 2 ^ 63 ||| (2 ^ 52 - 1) from by decide, Nat.and_or_distrib_left, nat_bit 63, Nat.and_two_pow_sub_one_eq_mod] at a1
  rw [show (2 : Nat) ^ 63 = 9223372036854775808 from rfl, show (2 : Nat) ^ 52 = P from rfl, b_sign x, (b_parts x).1] at a1
  have hfP : f * P ≤ 2046 * P := Nat.mul_le_mul_right _ h2
  have hfP1 : 1 * P ≤ f * P := Nat.mul_le_mul_right _ h1
  have a2 : IntKind.u64.wrap ((f : Int) * 4503599627370496) = ((f * P : Nat) : Int) := by
    rw [IntKind.wrap_u64, eP]
    rw [eP] at hfP
    omega
  rw [a2, show ((9218868437227405312 : Int)) = ((9218868437227405312 : Nat) : Int) from rfl, a1]
  have hs : (if x.k < 0 then 9223372036854775808 else 0 : Nat) = 9223372036854775808 ∨ (if x.k < 0 then 9223372036854775808 else 0 : Nat) = 0 := by split <;> simp
  rw [F.like_b x _ (by omega) (by omega)]
  generalize (if x.k < 0 then 9223372036854775808 else 0 : Nat) = sg at *
  generalize x.k.natAbs % P = m at *
  have j1 : f * P ||| m = f * P + m := nat_join 52 (f * P) m (by rw [show P = 2 ^ 52 from rfl]; exact Nat.mul_mod_left _ _) hm
  have j2 : sg ||| (f * P + m) = sg + (f * P + m) := nat_join 63 sg (f * P + m) (by rcases hs with h | h <;> rw [h] <;> rfl) (by omega)
  have j3 : sg ||| m = sg + m := nat_join 63 sg m (by rcases hs with h | h <;> rw [h] <;> rfl) (by omega)
  have b1 : sg ||| m < 18446744073709551616 := by omega
  rw [u64_or_nat _ _ b1 (by omega), Nat.or_assoc, Nat.or_comm m, j1, j2]

theorem nv_fl_exact {m s : Nat} (h : m ≤ 2 * P) : nv (fl (m * 2 ^ s)) = m * 2 ^ s := by
  by_cases h0 : m = 0
  · subst h0; rw [Nat.zero_mul, fl_zero, nv_zero]
  by_cases h2 : m = 2 * P
  · have e : m * 2 ^ s = P * 2 ^ (s + 1) := by rw [h2, Nat.pow_succ]; grind
    rw [e]
    have := nv_mk (s + 1) P (by omega) (Or.inr (Nat.le_refl _))
    rw [← this, fl_nv]
  · -- m below 2P: lift m into the binade
    have hl := Nat.lt_log2_self (n := m)
    have hl2 := Nat.log2_self_le h0
    have hlt : m < 2 ^ 53 := by rw [show (2 : Nat) ^ 53 = 2 * P from rfl]; omega
    have hle : m.log2 ≤ 52 := by
      by_cases c : m.log2 ≤ 52
      · exact c
      · have : 2 ^ 53 ≤ 2 ^ m.log2 := Nat.pow_le_pow_right (by omega) (by omega)
        omega
    obtain ⟨t, ht⟩ : ∃ t, t = min s (52 - m.log2) := ⟨_, rfl⟩
    have e : m * 2 ^ s = (m * 2 ^ t) * 2 ^ (s - t) := by
      rw [Nat.mul_assoc, ← Nat.pow_add]; congr 2; omega
    have hb : m * 2 ^ t < 2 * P := by
      rw [show 2 * P = 2 ^ 53 from rfl]
      refine Nat.lt_of_lt_of_le (Nat.mul_lt_mul_of_pos_right hl (Nat.two_pow_pos t)) ?_
      rw [← Nat.pow_add]
      exact Nat.pow_le_pow_right (by omega) (by omega)
    have hc : s - t = 0 ∨ P ≤ m * 2 ^ t := by
      by_cases c : s ≤ 52 - m.log2
      · left; omega
      · right
        rw [P_eq]
        refine Nat.le_trans ?_ (Nat.mul_le_mul_right (2 ^ t) hl2)
        rw [← Nat.pow_add]
        exact Nat.pow_le_pow_right (by omega) (by omega)
    rw [e, ← nv_mk (s - t) (m * 2 ^ t) (by omega) hc, fl_nv]

theorem nv_T : nv T = P * 2 ^ 2046 := by
  have := nv_mk 2046 P (by omega) (Or.inr (Nat.le_refl _))
  rw [← this]
  rfl

theorem man_norm {r : Nat} (h : P ≤ r) : man r = P + r % P := by unfold man; rw [if_neg (by omega)]
theorem nv_norm {r : Nat} (h : P ≤ r) : nv r = (P + r % P) * 2 ^ (r / P - 1) := by unfold nv; rw [man_norm h]; rfl

/-- y is x times 2^n -/
def Sc (x y : F) (n : Int) : Prop := y.z * ((2 ^ (-n).toNat : Nat) : Int) = x.z * ((2 ^ n.toNat : Nat) : Int)

theorem Sc.abs {x y : F} {n : Int} (h : Sc x y n) : nv y.k.natAbs * 2 ^ (-n).toNat = nv x.k.natAbs * 2 ^ n.toNat := by
  have h2 := congrArg Int.natAbs h
  rw [Int.natAbs_mul, Int.natAbs_mul, Int.natAbs_natCast, Int.natAbs_natCast, z_natAbs', z_natAbs'] at h2
  exact h2
theorem Sc.sign {x y : F} {n : Int} (h : Sc x y n) : (y.k < 0 ↔ x.k < 0) := by
  have h1 := z_sign x
  have h2 := z_sign y
  unfold Sc at h
  have p1 : (0 : Int) < ((2 ^ (-n).toNat : Nat) : Int) := by have := Nat.two_pow_pos (-n).toNat; omega
  have p2 : (0 : Int) < ((2 ^ n.toNat : Nat) : Int) := by have := Nat.two_pow_pos n.toNat; omega
  have a := Int.mul_lt_mul_right (b := y.z) (c := 0) p1
  have b := Int.mul_lt_mul_right (b := x.z) (c := 0) p2
  rw [Int.zero_mul] at a b
  rw [h] at a
  omega

/-- what ldexp comes to: which rung -/
theorem ldexp_parts {x x' y : F} {n c : Int} (h : Sc x y n) (hx : x.k ≠ 0) (hc : c ≤ 0) (hN : P ≤ x'.k.natAbs) (hxx : nv x'.k.natAbs = nv x.k.natAbs * 2 ^ (-c).toNat) (hs : x'.k < 0 ↔ x.k < 0) :
    let f := n + c + ((x'.k.natAbs / P : Nat) : Int)
    (1 ≤ f ∧ f ≤ 2046 ∧ y = x'.like (f.toNat * P + x'.k.natAbs % P)) ∨
    (1 ≤ f + 53 ∧ f + 53 ≤ 53 ∧ (x'.like ((f + 53).toNat * P + x'.k.natAbs % P)).z = y.z * 9007199254740992) := by
  intro f
  have hab := h.abs
  have hsg := h.sign
  have hP := P_pos
  have hm := Nat.mod_lt x'.k.natAbs hP
  have hq1 : 1 ≤ x'.k.natAbs / P := (Nat.le_div_iff_mul_le hP).2 (by omega)
  have hn := nv_norm hN
  obtain ⟨q, hq⟩ : ∃ q, x'.k.natAbs / P = q + 1 := ⟨x'.k.natAbs / P - 1, by omega⟩
  have hfe : f = n + c + (q + 1 : Nat) := by show n + c + ((x'.k.natAbs / P : Nat) : Int) = _; rw [hq]
  rw [hq, Nat.add_sub_cancel] at hn
  clear_value f
  generalize x'.k.natAbs % P = fr at *
  -- y 2^A = (P + fr) 2^B
  have hAB : nv y.k.natAbs * 2 ^ ((-n).toNat + (-c).toNat) = (P + fr) * 2 ^ (n.toNat + q) := by
    rw [Nat.pow_add, ← Nat.mul_assoc, hab, Nat.pow_add, Nat.mul_comm (2 ^ n.toNat) (2 ^ q), ← Nat.mul_assoc, ← hn, hxx]
    grind
  have hy0 : y.k ≠ 0 := by
    intro e
    rw [e, Int.natAbs_zero, nv_zero, Nat.zero_mul] at hab
    have : nv x.k.natAbs = 0 := by
      rcases Nat.mul_eq_zero.1 hab.symm with e | e
      · exact e
      · have := Nat.two_pow_pos n.toNat; omega
    have := nv_inj (this.trans nv_zero.symm)
    omega
  have hypos : 1 ≤ nv y.k.natAbs := by
    have := @nv_lt 0 y.k.natAbs (by omega)
    rw [nv_zero] at this; omega
  by_cases hf : 1 ≤ f
  · left
    have e1 : n.toNat + q = ((-n).toNat + (-c).toNat) + (f.toNat - 1) := by omega
    rw [e1, Nat.pow_add _ _ (f.toNat - 1), Nat.mul_comm (2 ^ _) (2 ^ (f.toNat - 1)), ← Nat.mul_assoc] at hAB
    have e2 := Nat.eq_of_mul_eq_mul_right (Nat.two_pow_pos _) hAB
    have e3 : f.toNat * P + fr = (f.toNat - 1) * P + (P + fr) := by
      obtain ⟨g, hg⟩ : ∃ g, f.toNat = g + 1 := ⟨f.toNat - 1, by omega⟩
      rw [hg, Nat.add_sub_cancel, Nat.add_mul]; omega
    have e4 : y.k.natAbs = f.toNat * P + fr := by
      apply nv_inj
      rw [e3, nv_mk _ _ (by omega) (Or.inr (by omega)), e2]
    have hyT := y.hk
    have hle : f ≤ 2046 := by
      by_cases c : f.toNat ≤ 2046
      · omega
      · have : 2047 * P ≤ f.toNat * P := Nat.mul_le_mul_right _ (by omega)
        rw [T_eq] at hyT; omega
    refine ⟨hf, hle, ?_⟩
    apply F.z_inj
    rw [F.like_z _ _ (by omega), F.z_like, e4]
    by_cases k1 : x'.k < 0
    · rw [if_pos k1, if_pos (by omega)]
    · rw [if_neg k1, if_neg (by omega)]
  · right
    have e1 : (-n).toNat + (-c).toNat = (n.toNat + q) + (1 - f).toNat := by omega
    rw [e1, Nat.pow_add _ _ (1 - f).toNat, Nat.mul_comm (2 ^ (n.toNat + q)), ← Nat.mul_assoc] at hAB
    have e2 := Nat.eq_of_mul_eq_mul_right (Nat.two_pow_pos _) hAB
    have hlt : (1 - f).toNat < 53 := by
      by_cases c : (1 - f).toNat < 53
      · exact c
      · have a1 : 2 ^ 53 ≤ 2 ^ (1 - f).toNat := Nat.pow_le_pow_right (by omega) (by omega)
        have a2 : 1 * 2 ^ (1 - f).toNat ≤ nv y.k.natAbs * 2 ^ (1 - f).toNat := Nat.mul_le_mul_right _ hypos
        rw [show (2 : Nat) ^ 53 = 2 * P from rfl] at a1
        omega
    have g1 : 1 ≤ f + 53 := by omega
    have hT : (f + 53).toNat * P + fr < T := by
      have : (f + 53).toNat * P ≤ 53 * P := Nat.mul_le_mul_right _ (by omega)
      rw [T_eq]; omega
    refine ⟨g1, by omega, ?_⟩
    rw [F.like_z _ _ hT, F.z_like y]
    have e3 : (f + 53).toNat * P + fr = ((f + 53).toNat - 1) * P + (P + fr) := by
      obtain ⟨g, hg⟩ : ∃ g, (f + 53).toNat = g + 1 := ⟨(f + 53).toNat - 1, by omega⟩
      rw [hg, Nat.add_sub_cancel, Nat.add_mul]; omega
    have e4 : nv ((f + 53).toNat * P + fr) = nv y.k.natAbs * 9007199254740992 := by
      rw [e3, nv_mk _ _ (by omega) (Or.inr (by omega)), ← e2, Nat.mul_assoc, ← Nat.pow_add]
      congr 1
      rw [show (1 - f).toNat + ((f + 53).toNat - 1) = 53 from by omega]
    rw [e4]
    by_cases k1 : x'.k < 0
    · rw [if_pos k1, if_pos (by omega)]; omega
    · rw [if_neg k1, if_neg (by omega)]; omega

/-- the number that a subnormal one is lifted to -/
theorem lift_sub (x : F) (h : x.k.natAbs < P) (h0 : x.k ≠ 0) : ∃ x' : F, x'.z = x.z * 4503599627370496 ∧ P ≤ x'.k.natAbs ∧ nv x'.k.natAbs = nv x.k.natAbs * 2 ^ 52 ∧ (x'.k < 0 ↔ x.k < 0) := by
  have e1 : nv x.k.natAbs = x.k.natAbs := by
    have := nv_mk 0 x.k.natAbs (by omega) (Or.inl rfl)
    simpa using this
  have e2 := nv_fl_exact (m := x.k.natAbs) (s := 52) (by omega)
  have hr : fl (x.k.natAbs * 2 ^ 52) < T := by
    have a1 : x.k.natAbs * 2 ^ 52 ≤ P * 2 ^ 52 := Nat.mul_le_mul_right _ (by omega)
    have a2 := fl_mono a1
    have a3 := nv_mk 52 P (by omega) (Or.inr (Nat.le_refl _))
    rw [← a3, fl_nv] at a2
    have e : P = 4503599627370496 := rfl
    have e2 := T_num
    omega
  have hP : P ≤ fl (x.k.natAbs * 2 ^ 52) := by
    rw [le_fl]
    have := nv_mk 0 P (by omega) (Or.inl rfl)
    rw [Nat.zero_mul, Nat.zero_add, Nat.pow_zero, Nat.mul_one] at this
    rw [this, P_eq]
    have : 1 * 2 ^ 52 ≤ x.k.natAbs * 2 ^ 52 := Nat.mul_le_mul_right _ (by omega)
    omega
  have hk : (x.like (fl (x.k.natAbs * 2 ^ 52))).k = if x.k < 0 then -(fl (x.k.natAbs * 2 ^ 52) : Int) else fl (x.k.natAbs * 2 ^ 52) := by
    unfold F.like; rw [F.of_k (by split <;> omega)]
  have hka : (x.like (fl (x.k.natAbs * 2 ^ 52))).k.natAbs = fl (x.k.natAbs * 2 ^ 52) := by rw [hk]; split <;> omega
  refine ⟨x.like (fl (x.k.natAbs * 2 ^ 52)), ?_, by rw [hka]; exact hP, by rw [hka, e2, e1], ?_⟩
  · rw [F.like_z _ _ hr, e2, F.z_like, e1]
    split <;> omega
  · rw [hk]
    have := P_pos
    split <;> omega

/-- the number m * 2^e (m of 53 bits, e from -1074 on, not too great) -/
def F.dy (m : Nat) (e : Int) : F := F.of (fl (m * 2 ^ (e + 1074).toNat) : Nat)

theorem dy_lt {m : Nat} {e : Int} (he : -1074 ≤ e) (h : (blen m : Int) + e ≤ 1024) : fl (m * 2 ^ (e + 1074).toNat) < T := by
  have h1 := lt_blen m
  have h2 : m * 2 ^ (e + 1074).toNat < nv T := by
    rw [nv_T]
    refine Nat.lt_of_lt_of_le (Nat.mul_lt_mul_of_pos_right h1 (Nat.two_pow_pos _)) ?_
    rw [← Nat.pow_add]
    obtain ⟨t, ht⟩ : ∃ t : Nat, t = 2046 := ⟨_, rfl⟩
    rw [← ht, show P * 2 ^ t = 2 ^ (52 + t) from by rw [Nat.pow_add]; rfl]
    exact Nat.pow_le_pow_right (by omega) (by omega)
  have h3 := nv_fl_le (m * 2 ^ (e + 1074).toNat)
  exact nv_lt_iff.1 (by omega)

theorem dy_z {m : Nat} {e : Int} (hm : m ≤ 2 * P) (he : -1074 ≤ e) (h : (blen m : Int) + e ≤ 1024) : (F.dy m e).z = ((m * 2 ^ (e + 1074).toNat : Nat) : Int) := by
  have := dy_lt he h
  unfold F.dy F.z
  rw [F.of_k (by omega), nvZ_natCast, nv_fl_exact hm]

theorem blen_2P {m : Nat} (hm : m ≤ 2 * P) : blen m ≤ 54 := by
  apply blen_le
  have : P = 4503599627370496 := rfl
  omega

theorem nat_z {m : Nat} (hm : m ≤ 2 * P) : (F.dy m 0).z = (m : Int) * S := by
  have := blen_2P hm
  rw [dy_z hm (by omega) (by omega)]
  obtain ⟨s, hs, e⟩ := S_pow
  rw [e, show ((0 : Int) + 1074).toNat = s from by omega]
  simp

theorem nat_conv {m : Nat} (hm : m ≤ 2 * P) : Ieee.double.write (.number (decide ((m : Int) < 0)) (m : Int).natAbs 0) = (F.dy m 0).b :=
  ofInt_exact (nat_z hm)

theorem nat_Sc {m : Nat} {e : Int} (hm : m ≤ 2 * P) (he : -1074 ≤ e) (h : (blen m : Int) + e ≤ 1024) : Sc (F.dy m 0) (F.dy m e) e := by
  unfold Sc
  rw [nat_z hm, dy_z hm he h]
  obtain ⟨s, hs, e2⟩ := S_pow
  rw [e2, ← Int.natCast_mul, ← Int.natCast_mul, ← Int.natCast_mul, Nat.mul_assoc, Nat.mul_assoc, ← Nat.pow_add, ← Nat.pow_add]
  rw [show (e + 1074).toNat + (-e).toNat = s + e.toNat from by omega]

theorem dy_max : F.dy 9007199254740991 971 = F.max := by decide +kernel

/-- x, turned if so -/
def F.turn (minus : Bool) (x : F) : F := if minus then x.neg else x

/-- what a magnitude, rounded to a whole number m, by a power of two comes to -/
def rndOut (minus away : Bool) (m : Nat) (e : Int) : F × Int :=
  if m = 0 then (F.zero, 0) else if 1024 < (blen m : Int) + e then (if away then (F.zero, 10) else (F.turn minus F.max, 0)) else (F.turn minus (F.dy m e), 0)

theorem xor_top (r : Nat) (h : r < 2 ^ 63) : r ^^^ 2 ^ 63 = 2 ^ 63 + r := by
  have e0 := Nat.two_pow_add_eq_or_of_lt h 1
  rw [Nat.mul_one] at e0
  rw [e0]
  apply Nat.eq_of_testBit_eq
  intro i
  rw [Nat.testBit_xor, Nat.testBit_or, Nat.testBit_two_pow]
  by_cases e : 63 = i
  · subst e; rw [Nat.testBit_lt_two_pow h]; rfl
  · simp [e]

theorem negFloat_F (x : F) (h : x.k ≠ 0) : Op.negFloat .f64 x.b = x.neg.b := by
  show x.b ^^^ 2 ^ 63 = x.neg.b
  have h1 := x.hk
  have e := T_num
  unfold F.neg F.b
  simp only
  by_cases h2 : 0 ≤ x.k
  · rw [if_pos h2, if_neg (by omega), xor_top _ (by omega)]
    omega
  · rw [if_neg h2, if_pos (by omega)]
    have := xor_top (-x.k).toNat (by omega)
    rw [show 9223372036854775808 + (-x.k).toNat = (-x.k).toNat ^^^ 2 ^ 63 from this.symm, Nat.xor_assoc, Nat.xor_self, Nat.xor_zero]

theorem F.max_k : F.max.k = 9218868437227405311 := rfl
theorem dy_pos {m : Nat} {e : Int} (hm : m ≤ 2 * P) (h0 : m ≠ 0) (he : -1074 ≤ e) (h : (blen m : Int) + e ≤ 1024) : (F.dy m e).k ≠ 0 := by
  intro c
  have h1 := (z_zero _).2 c
  rw [dy_z hm he h] at h1
  have h2 : m * 2 ^ (e + 1074).toNat ≠ 0 := Nat.mul_ne_zero h0 (by have := Nat.two_pow_pos (e + 1074).toNat; omega)
  omega
/-- the whole number that a magnitude is rounded to -/
def mUp (minus more up lost : Bool) (m0 : Nat) : Nat := if (up != minus) && (lost || more) then m0 + 1 else m0

/-- what 'rounded' comes to, as the text goes -/
def rndG (minus : Bool) (n : Nat) (more : Bool) (e : Int) (up : Bool) : F × Int :=
  rndOut minus (up != minus) (mUp minus more up (decide (n % 2 ^ cutN n e ≠ 0)) (n / 2 ^ cutN n e)) (e + cutN n e)
theorem turn_false (x : F) : F.turn false x = x := rfl
theorem turn_true (x : F) : F.turn true x = x.neg := rfl
attribute [irreducible] F.dy F.turn
end Bu
