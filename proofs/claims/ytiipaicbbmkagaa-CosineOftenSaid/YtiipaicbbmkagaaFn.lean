/- Rounding to nearest, as the float operations do it, by the ladder. -/
import Derived.Test.YtiipaicbbmkagaaFb
namespace Bu
set_option linter.all false
open Ieee

/-- the rung nearest to n / d (times S); of two the even one -/
def near (n d : Nat) : Nat :=
  let r := fl (n / d)
  if 2 * n < (nv r + nv (r + 1)) * d then r else if (nv r + nv (r + 1)) * d < 2 * n then r + 1 else if r % 2 = 0 then r else r + 1

/-- cut, with the gap as it stands -/
theorem cut_even (neg : Bool) (n drop : Nat) : Toward.even.cut neg n drop =
    n / 2 ^ drop + (if 2 ^ drop < 2 * (n % 2 ^ drop) || (2 ^ drop == 2 * (n % 2 ^ drop) && n / 2 ^ drop % 2 == 1) then 1 else 0) := by
  unfold Toward.cut
  simp only [Nat.shiftLeft_eq, Nat.one_mul]
  by_cases h : drop ≤ n.log2 + 2
  · rw [Nat.min_eq_left h]
    generalize 2 ^ drop = g
    by_cases c : (decide (g < 2 * (n % g)) || (g == 2 * (n % g) && n / g % 2 == 1)) = true
    · simp only [c, if_true]; rfl
    · simp only [c]; rfl
  · rw [Nat.min_eq_right (by omega)]
    have h1 := Nat.lt_log2_self (n := n)
    have h2 : 2 ^ (n.log2 + 2) = 2 * 2 ^ (n.log2 + 1) := by rw [Nat.pow_succ _ (n.log2 + 1), Nat.mul_comm]
    have h3 : 2 ^ (n.log2 + 2) ≤ 2 ^ drop := Nat.pow_le_pow_right (by omega) (by omega)
    generalize 2 ^ (n.log2 + 1) = u at *
    generalize 2 ^ (n.log2 + 2) = g at *
    generalize 2 ^ drop = k at *
    rw [Nat.div_eq_of_lt (by omega), Nat.mod_eq_of_lt (by omega), Nat.div_eq_of_lt (by omega), Nat.mod_eq_of_lt (by omega)]
    have a : ¬ g < 2 * n := by omega
    have b : (g == 2 * n) = false := by rw [beq_eq_false_iff_ne]; omega
    have c : ¬ k < 2 * n := by omega
    have d : (k == 2 * n) = false := by rw [beq_eq_false_iff_ne]; omega
    simp [a, b, c, d]
    rw [Nat.mod_eq_of_lt (by omega)]; omega

theorem near_mk {n d s m : Nat} (hd : 0 < d) (hm : m < 2 * P) (h2 : s = 0 ∨ P ≤ m) (h3 : m * 2 ^ s ≤ n / d) (h4 : n / d < (m + 1) * 2 ^ s) :
    near n d = if 2 * n < (2 * m + 1) * 2 ^ s * d then s * P + m else if (2 * m + 1) * 2 ^ s * d < 2 * n then s * P + m + 1 else if m % 2 = 0 then s * P + m else s * P + m + 1 := by
  unfold near
  simp only
  rw [fl_mk hm h2 h3 h4, nv_mk s m (by omega) h2, Nat.add_assoc (s * P), nv_mk s (m + 1) (by omega) (by omega)]
  have e : m * 2 ^ s + (m + 1) * 2 ^ s = (2 * m + 1) * 2 ^ s := by rw [← Nat.add_mul]; congr 1; omega
  rw [e]
  have e2 : (s * P + m) % 2 = m % 2 := by
    rw [show P = 2 * 2251799813685248 from rfl, ← Nat.mul_assoc, Nat.mul_comm s 2, Nat.mul_assoc]
    omega
  rw [e2]

theorem nearest_eq (neg : Bool) (mag : Nat) (place : Int) (hmag : mag ≠ 0) :
    double.nearest neg mag place = double.word neg (min (near (mag * 2 ^ (place + 1074).toNat) (2 ^ (-(place + 1074)).toNat)) T) := by
  unfold Format.nearest
  rw [if_neg hmag, dbl_bin, dbl_inf, dbl_least]
  simp only
  have hf : (double.fractionBits : Int) = 52 := rfl
  rw [hf]
  congr 2
  -- s: the last place, from the least one on
  obtain ⟨s, hs⟩ : ∃ s : Nat, max (place + (mag.log2 : Int) - 52) (-1074) = (s : Int) - 1074 := ⟨(max (place + (mag.log2 : Int) - 52) (-1074) + 1074).toNat, by omega⟩
  rw [hs]
  have e0 : ((s : Int) - 1074 - -1074).toNat = s := by omega
  rw [e0, cut_even]
  have hl := Nat.lt_log2_self (n := mag)
  have hl2 := Nat.log2_self_le hmag
  rw [Nat.shiftLeft_eq]
  -- the number, times S, is n / d
  obtain ⟨a, ha⟩ : ∃ a, a = (place + 1074).toNat := ⟨_, rfl⟩
  obtain ⟨b, hb⟩ : ∃ b, b = (-(place + 1074)).toNat := ⟨_, rfl⟩
  obtain ⟨u, hu⟩ : ∃ u, u = (place - ((s : Int) - 1074)).toNat := ⟨_, rfl⟩
  obtain ⟨v, hv⟩ : ∃ v, v = ((s : Int) - 1074 - place).toNat := ⟨_, rfl⟩
  rw [← ha, ← hb, ← hu, ← hv]
  -- u + s + b = a + v, and of u, v one is 0; of a, b one is 0
  have r1 : u + s + b = a + v := by omega
  have r2 : u = 0 ∨ v = 0 := by omega
  have r3 : a = 0 ∨ b = 0 := by omega
  -- q: what is kept; t: the rest
  have hg0 := Nat.two_pow_pos v
  have hq := Nat.div_add_mod (mag * 2 ^ u) (2 ^ v)
  have ht := Nat.mod_lt (mag * 2 ^ u) hg0
  generalize hq' : mag * 2 ^ u / 2 ^ v = q at *
  generalize mag * 2 ^ u % 2 ^ v = t at *
  have hd0 := Nat.two_pow_pos b
  -- n * 2^v = (2^v q + t) * 2^s * 2^b
  have hn : mag * 2 ^ a * 2 ^ v = (2 ^ v * q + t) * 2 ^ s * 2 ^ b := by
    rw [hq, Nat.mul_assoc mag, ← Nat.pow_add, ← r1, Nat.pow_add, Nat.pow_add]
    simp only [Nat.mul_assoc]
  generalize hN : mag * 2 ^ a = n at *
  have hqm : q < 2 * P ∧ (s = 0 ∨ P ≤ q) := by
    constructor
    · rw [← hq', Nat.div_lt_iff_lt_mul hg0]
      by_cases hu0 : u = 0
      · subst hu0
        rw [Nat.pow_zero, Nat.mul_one, show 2 * P = 2 ^ 53 from rfl, ← Nat.pow_add]
        exact Nat.lt_of_lt_of_le hl (Nat.pow_le_pow_right (by omega) (by omega))
      · have hv0 : v = 0 := by omega
        subst hv0
        rw [Nat.pow_zero, Nat.mul_one, show 2 * P = 2 ^ 53 from rfl]
        refine Nat.lt_of_lt_of_le (Nat.mul_lt_mul_of_pos_right hl (Nat.two_pow_pos u)) ?_
        rw [← Nat.pow_add]
        exact Nat.pow_le_pow_right (by omega) (by omega)
    · by_cases hs0 : s = 0
      · exact Or.inl hs0
      · right
        rw [← hq', Nat.le_div_iff_mul_le hg0]
        by_cases hu0 : u = 0
        · subst hu0
          rw [Nat.pow_zero, Nat.mul_one, P_eq, ← Nat.pow_add]
          exact Nat.le_trans (Nat.pow_le_pow_right (by omega) (by omega)) hl2
        · have hv0 : v = 0 := by omega
          subst hv0
          rw [Nat.pow_zero, Nat.mul_one, P_eq]
          refine Nat.le_trans ?_ (Nat.mul_le_mul_right (2 ^ u) hl2)
          rw [← Nat.pow_add]
          exact Nat.pow_le_pow_right (by omega) (by omega)
  have hs0 := Nat.two_pow_pos s
  generalize 2 ^ v = g at *
  generalize 2 ^ b = d at *
  generalize h2s : 2 ^ s = k at *
  have h3 : q * 2 ^ s ≤ n / d := by
    rw [h2s, Nat.le_div_iff_mul_le hd0]
    refine Nat.le_of_mul_le_mul_right ?_ hg0
    rw [hn, show q * k * d * g = g * q * k * d from by grind]
    exact Nat.mul_le_mul_right _ (Nat.mul_le_mul_right _ (by omega))
  have h4 : n / d < (q + 1) * 2 ^ s := by
    rw [h2s, Nat.div_lt_iff_lt_mul hd0]
    refine Nat.lt_of_mul_lt_mul_right (a := g) ?_
    rw [hn, show (q + 1) * k * d * g = (g * q + g) * k * d from by grind]
    exact Nat.mul_lt_mul_of_pos_right (Nat.mul_lt_mul_of_pos_right (by omega) hs0) hd0
  rw [near_mk hd0 hqm.1 hqm.2 h3 h4, h2s]
  -- compare 2 n with (2 q + 1) k d, times g
  have hkd : 0 < k * d := Nat.mul_pos hs0 hd0
  have c1 : 2 * n < (2 * q + 1) * k * d ↔ 2 * t < g := by
    rw [← Nat.mul_lt_mul_right hg0, Nat.mul_assoc 2, hn, show 2 * ((g * q + t) * k * d) = (2 * (g * q) + 2 * t) * (k * d) from by grind,
      show (2 * q + 1) * k * d * g = (2 * (g * q) + g) * (k * d) from by grind, Nat.mul_lt_mul_right hkd]
    omega
  have c2 : (2 * q + 1) * k * d < 2 * n ↔ g < 2 * t := by
    rw [← Nat.mul_lt_mul_right hg0, Nat.mul_assoc 2 n, hn, show 2 * ((g * q + t) * k * d) = (2 * (g * q) + 2 * t) * (k * d) from by grind,
      show (2 * q + 1) * k * d * g = (2 * (g * q) + g) * (k * d) from by grind, Nat.mul_lt_mul_right hkd]
    omega
  simp only [c1, c2]
  by_cases d1 : 2 * t < g
  · have : ¬ g < 2 * t := by omega
    have e : (g == 2 * t) = false := by rw [beq_eq_false_iff_ne]; omega
    simp [d1, this, e]
  · by_cases d2 : g < 2 * t
    · simp [d1, d2]; omega
    · have e : (g == 2 * t) = true := by rw [beq_iff_eq]; omega
      by_cases d3 : q % 2 = 0
      · simp [d1, d2, e, d3]
      · have d4 : q % 2 = 1 := by omega
        simp [d1, d2, e, d4]; omega

theorem near_exact {n d r : Nat} (hd : 0 < d) (h : n = nv r * d) : near n d = r := by
  unfold near
  subst h
  rw [Nat.mul_div_cancel _ hd, fl_nv]
  have h1 := nv_succ r
  have : 2 * (nv r * d) < (nv r + nv (r + 1)) * d := by
    rw [← Nat.mul_assoc]
    exact Nat.mul_lt_mul_of_pos_right (by omega) hd
  simp [this]

theorem word_F (neg : Bool) (r : Nat) (hr : r < T) (hz : neg = true → r ≠ 0) : double.word neg r = (F.of (if neg then -(r : Int) else r)).b := by
  unfold Format.word F.b
  rw [dbl_sign]
  cases neg
  · simp only [Bool.false_eq_true, if_false]
    rw [F.of_k (by omega)]; simp
  · simp only [if_true]
    rw [F.of_k (by omega), if_neg (by have := hz rfl; omega)]; omega


theorem near_ratio {n d n' d' : Nat} (hd : 0 < d) (hd' : 0 < d') (h : n * d' = n' * d) : near n d = near n' d' := by
  have e : n / d = n' / d' := by
    have h1 : n / d = n * d' / (d * d') := (Nat.mul_div_mul_right n d hd').symm
    have h2 : n' / d' = n' * d / (d' * d) := (Nat.mul_div_mul_right n' d' hd).symm
    rw [h1, h2, h, Nat.mul_comm d d']
  unfold near
  rw [e]
  simp only
  generalize nv (fl (n' / d')) + nv (fl (n' / d') + 1) = k
  have c1 : 2 * n < k * d ↔ 2 * n' < k * d' := by
    rw [← Nat.mul_lt_mul_right hd', ← Nat.mul_lt_mul_right hd, show 2 * n * d' = 2 * (n * d') from by grind, h, show 2 * (n' * d) = 2 * n' * d from by grind,
      show k * d * d' = k * d' * d from by grind, Nat.mul_lt_mul_right hd, Nat.mul_lt_mul_right hd]
  have c2 : k * d < 2 * n ↔ k * d' < 2 * n' := by
    rw [← Nat.mul_lt_mul_right hd', show 2 * n * d' = 2 * (n * d') from by grind, h, show 2 * (n' * d) = 2 * n' * d from by grind,
      show k * d * d' = k * d' * d from by grind, Nat.mul_lt_mul_right hd]
  simp only [c1, c2]

theorem z_natAbs (x : F) : x.z.natAbs = man x.k.natAbs * 2 ^ pl x.k.natAbs := by
  unfold F.z
  rw [nvZ_sign]
  by_cases h : x.k < 0 <;> simp [h, Int.natAbs_mul]

theorem z_sign (x : F) : (x.z < 0 ↔ x.k < 0) := by
  have := @nvZ_lt_iff x.k 0
  rw [nvZ_zero] at this
  exact this
theorem z_zero (x : F) : (x.z = 0 ↔ x.k = 0) := by
  constructor
  · intro h; exact nvZ_inj (by rw [nvZ_zero]; exact h)
  · intro h; unfold F.z; rw [h, nvZ_zero]

theorem man_zero (r : Nat) (h : man r = 0) : r = 0 := by
  unfold man at h
  have := P_pos
  split at h <;> omega

theorem S_pow : ∃ s : Nat, s = 1074 ∧ S = 2 ^ s := ⟨1074, rfl, S_eq⟩

theorem two_pow_split (a b : Int) (h : 0 ≤ a + b + 1074 ∨ a + b + 1074 < 0) (ha : -1074 ≤ a) (hb : -1074 ≤ b) :
    2 ^ (a + b + 1074).toNat * S = 2 ^ (a + 1074).toNat * 2 ^ (b + 1074).toNat * 2 ^ (-(a + b + 1074)).toNat := by
  obtain ⟨s, hs, e⟩ := S_pow
  rw [e, ← Nat.pow_add, ← Nat.pow_add, ← Nat.pow_add]
  exact congrArg (2 ^ ·) (by omega)

/-- '*' -/
theorem mul_F (x y : F) (hx : x.k ≠ 0) (hy : y.k ≠ 0) :
    double.mul x.b y.b = some (double.word (decide (x.k < 0) ^^ decide (y.k < 0)) (min (near (x.z.natAbs * y.z.natAbs) S) T)) := by
  unfold Format.mul
  rw [read_F, read_F]
  simp only [Datum.product, Option.map_some, Format.write]
  have m1 : man x.k.natAbs ≠ 0 := fun h => hx (by have := man_zero _ h; omega)
  have m2 : man y.k.natAbs ≠ 0 := fun h => hy (by have := man_zero _ h; omega)
  rw [nearest_eq _ _ _ (Nat.mul_ne_zero m1 m2)]
  have e : near (man x.k.natAbs * man y.k.natAbs * 2 ^ (-1074 + (pl x.k.natAbs : Int) + (-1074 + (pl y.k.natAbs : Int)) + 1074).toNat) (2 ^ (-(-1074 + (pl x.k.natAbs : Int) + (-1074 + (pl y.k.natAbs : Int)) + 1074)).toNat) = near (x.z.natAbs * y.z.natAbs) S := by
    refine near_ratio (Nat.two_pow_pos _) S_pos ?_
    rw [z_natAbs, z_natAbs]
    have := two_pow_split (-1074 + (pl x.k.natAbs : Int)) (-1074 + (pl y.k.natAbs : Int)) (by omega) (by omega) (by omega)
    rw [show (-1074 + (pl x.k.natAbs : Int) + 1074).toNat = pl x.k.natAbs from by omega, show (-1074 + (pl y.k.natAbs : Int) + 1074).toNat = pl y.k.natAbs from by omega] at this
    rw [Nat.mul_assoc, this]
    generalize 2 ^ pl x.k.natAbs = a
    generalize 2 ^ pl y.k.natAbs = b
    grind
  rw [e]

theorem signed_scale (neg : Bool) (m : Nat) (i base : Int) (hb : -1074 ≤ base) (h : base ≤ i) :
    signed neg m (i - base).toNat * ((2 ^ (base + 1074).toNat : Nat) : Int) = (if neg then -1 else 1) * ((m * 2 ^ (i + 1074).toNat : Nat) : Int) := by
  rw [signed_eq, Int.mul_assoc, ← Int.natCast_mul, Nat.mul_assoc, ← Nat.pow_add, show (i - base).toNat + (base + 1074).toNat = (i + 1074).toNat from by omega]

/-- '+' -/
theorem add_F (x y : F) : double.add x.b y.b = some (if x.z + y.z = 0 then 0 else double.word (decide (x.z + y.z < 0)) (min (near (x.z + y.z).natAbs 1) T)) := by
  unfold Format.add
  rw [read_F, read_F]
  simp only [Datum.sum, Option.map_some, Format.write]
  obtain ⟨base, hbase⟩ : ∃ b : Int, b = min (-1074 + (pl x.k.natAbs : Int)) (-1074 + (pl y.k.natAbs : Int)) := ⟨_, rfl⟩
  rw [← hbase]
  have s1 := signed_scale (decide (x.k < 0)) (man x.k.natAbs) (-1074 + (pl x.k.natAbs : Int)) base (by omega) (by omega)
  have s2 := signed_scale (decide (y.k < 0)) (man y.k.natAbs) (-1074 + (pl y.k.natAbs : Int)) base (by omega) (by omega)
  rw [show (-1074 + (pl x.k.natAbs : Int) + 1074).toNat = pl x.k.natAbs from by omega, ← nvZ_sign] at s1
  rw [show (-1074 + (pl y.k.natAbs : Int) + 1074).toNat = pl y.k.natAbs from by omega, ← nvZ_sign] at s2
  generalize signed (decide (x.k < 0)) (man x.k.natAbs) (-1074 + (pl x.k.natAbs : Int) - base).toNat = u at *
  generalize signed (decide (y.k < 0)) (man y.k.natAbs) (-1074 + (pl y.k.natAbs : Int) - base).toNat = v at *
  have hp := Nat.two_pow_pos (base + 1074).toNat
  have hz : x.z + y.z = (u + v) * ((2 ^ (base + 1074).toNat : Nat) : Int) := by
    unfold F.z; rw [Int.add_mul, s1, s2]
  have hpos : (0 : Int) < ((2 ^ (base + 1074).toNat : Nat) : Int) := by omega
  have t1 : x.z + y.z = 0 ↔ u + v = 0 := by
    rw [hz]; constructor
    · intro h; rcases Int.mul_eq_zero.1 h with h | h
      · exact h
      · omega
    · intro h; rw [h, Int.zero_mul]
  have t2 : x.z + y.z < 0 ↔ u + v < 0 := by
    rw [hz]
    have := Int.mul_lt_mul_right (b := u + v) (c := 0) hpos
    rw [Int.zero_mul] at this
    exact this
  by_cases h0 : u + v = 0
  · rw [if_pos (t1.2 h0)]
    have hx0 : (decide (x.k < 0) && decide (y.k < 0)) = false := by
      rw [Bool.and_eq_false_iff]
      simp only [decide_eq_false_iff_not]
      have a1 := z_sign x
      have a2 := z_sign y
      have := t1.2 h0
      omega
    rw [h0]
    simp [hx0, Format.nearest, Format.word]
  · rw [if_neg (fun h => h0 (t1.1 h)), if_neg h0, nearest_eq _ _ _ (by omega)]
    simp only [t2]
    have e : near ((u + v).natAbs * 2 ^ (base + 1074).toNat) (2 ^ (-(base + 1074)).toNat) = near (x.z + y.z).natAbs 1 := by
      refine near_ratio (Nat.two_pow_pos _) (by omega) ?_
      rw [hz, Int.natAbs_mul, Int.natAbs_natCast, show (-(base + 1074)).toNat = 0 from by omega]
    rw [e]

/-- 'float64(n)' -/
theorem ofInt_F (n : Int) (h : n ≠ 0) : double.write (.number (decide (n < 0)) n.natAbs 0) = double.word (decide (n < 0)) (min (near (n.natAbs * S) 1) T) := by
  simp only [Format.write]
  rw [nearest_eq _ _ _ (by omega)]
  have e : near (n.natAbs * 2 ^ ((0 : Int) + 1074).toNat) (2 ^ (-((0 : Int) + 1074)).toNat) = near (n.natAbs * S) 1 := by
    refine near_ratio (Nat.two_pow_pos _) (by omega) ?_
    obtain ⟨s, hs, e⟩ := S_pow
    rw [e, show ((0 : Int) + 1074).toNat = s from by omega, show (-((0 : Int) + 1074)).toNat = 0 from by omega]
  rw [e]

/-- -x -/
def F.neg (x : F) : F := ⟨-x.k, by have := x.hk; omega⟩
theorem F.neg_z (x : F) : x.neg.z = -x.z := nvZ_neg x.k

theorem word_sign (p : F) (h : p.k ≠ 0) : double.word (decide (p.k < 0)) p.k.natAbs = p.b := by
  have h1 := p.hk
  rw [word_F _ _ (by omega) (by simp; omega)]
  congr 1
  apply F.ext'
  by_cases h2 : p.k < 0
  · simp only [h2, decide_true, if_true]; rw [F.of_k (by omega)]; omega
  · simp only [h2, decide_false, Bool.false_eq_true, if_false]; rw [F.of_k (by omega)]; omega

theorem z_natAbs' (x : F) : x.z.natAbs = nv x.k.natAbs := z_natAbs x

/-- an exact product -/
theorem mul_exact {x y p : F} (hp : p.k ≠ 0) (h : p.z * S = x.z * y.z) : double.mul x.b y.b = some p.b := by
  have hS : (0 : Int) < S := by have := S_pos; omega
  have hpz : p.z ≠ 0 := fun e => hp ((z_zero p).1 e)
  have hxy : x.z * y.z ≠ 0 := by
    rw [← h]; intro e; rcases Int.mul_eq_zero.1 e with e | e
    · exact hpz e
    · omega
  have hx : x.k ≠ 0 := fun e => hxy (by rw [(z_zero x).2 e, Int.zero_mul])
  have hy : y.k ≠ 0 := fun e => hxy (by rw [(z_zero y).2 e, Int.mul_zero])
  rw [mul_F x y hx hy, ← Int.natAbs_mul, ← h, Int.natAbs_mul, Int.natAbs_natCast, z_natAbs', near_exact S_pos rfl, Nat.min_eq_left (by have := p.hk; omega), ← word_sign p hp]
  congr 2
  have a1 := z_sign x
  have a2 := z_sign y
  have a3 := z_sign p
  have a4 := (z_zero x)
  have a5 := (z_zero y)
  have s1 : p.z < 0 ↔ x.z * y.z < 0 := by
    rw [← h]
    have := Int.mul_lt_mul_right (b := p.z) (c := 0) hS
    rw [Int.zero_mul] at this
    exact this.symm
  rw [Bool.eq_iff_iff]
  by_cases b1 : x.k < 0 <;> by_cases b2 : y.k < 0
  · have := Int.mul_pos_of_neg_of_neg (a1.2 b1) (a2.2 b2)
    simp [b1, b2]; omega
  · have := Int.mul_neg_of_neg_of_pos (a1.2 b1) (show 0 < y.z by omega)
    simp [b1, b2]; omega
  · have := Int.mul_neg_of_pos_of_neg (show 0 < x.z by omega) (a2.2 b2)
    simp [b1, b2]; omega
  · have := Int.mul_pos (show 0 < x.z by omega) (show 0 < y.z by omega)
    simp [b1, b2]; omega

/-- an integer that is a number -/
theorem ofInt_exact {n : Int} {p : F} (h : p.z = n * S) : double.write (.number (decide (n < 0)) n.natAbs 0) = p.b := by
  have hS : (0 : Int) < S := by have := S_pos; omega
  by_cases h0 : n = 0
  · subst h0
    rw [Int.zero_mul] at h
    have : p = F.zero := F.ext' ((z_zero p).1 h)
    subst this
    decide
  · rw [ofInt_F n h0]
    have hp : p.k ≠ 0 := by
      intro e
      rw [(z_zero p).2 e] at h
      rcases Int.mul_eq_zero.1 h.symm with e2 | e2
      · exact h0 e2
      · omega
    have e1 : n.natAbs * S = nv p.k.natAbs * 1 := by rw [← z_natAbs', h, Int.natAbs_mul, Int.natAbs_natCast]; simp
    rw [near_exact (by omega) e1, Nat.min_eq_left (by have := p.hk; omega), ← word_sign p hp]
    congr 1
    have s1 : p.z < 0 ↔ n < 0 := by
      rw [h]
      have := Int.mul_lt_mul_right (b := n) (c := 0) hS
      rw [Int.zero_mul] at this
      exact this
    have := z_sign p
    rw [Bool.eq_iff_iff]; simp; omega
end Bu
