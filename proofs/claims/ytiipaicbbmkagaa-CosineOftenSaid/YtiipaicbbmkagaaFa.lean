/- Plain arithmetic of wide numbers. -/
import Derived.Laws.BitsAll
import Derived.Lib.ItoaNum
namespace Bu
set_option linter.all false
open Go

/-- a wide number -/
def wn (a b : Int) : Nat := a.toNat * 18446744073709551616 + b.toNat
def hi (n : Nat) : Int := ((n / 18446744073709551616 : Nat) : Int)
def lo (n : Nat) : Int := ((n % 18446744073709551616 : Nat) : Int)
def W128 : Nat := 340282366920938463463374607431768211456
theorem W128_eq : W128 = 340282366920938463463374607431768211456 := rfl

theorem up_parts (x y n : Nat) (hn : n ≤ 64) (hy : y < 18446744073709551616) :
    (x * 18446744073709551616 + y) * 2 ^ n % W128 / 18446744073709551616 = x * 2 ^ n % 18446744073709551616 + y / 2 ^ (64 - n)
    ∧ (x * 18446744073709551616 + y) * 2 ^ n % W128 % 18446744073709551616 = y * 2 ^ n % 18446744073709551616
    ∧ x * 2 ^ n % 18446744073709551616 % 2 ^ n = 0 ∧ y / 2 ^ (64 - n) < 2 ^ n ∧ x * 2 ^ n % 18446744073709551616 + y / 2 ^ (64 - n) < 18446744073709551616 := by
  rw [W128_eq]
  have hpq : 2 ^ n * 2 ^ (64 - n) = 18446744073709551616 := by
    rw [← Nat.pow_add, show n + (64 - n) = 64 from by omega]
  generalize hq : 2 ^ n = q at *
  generalize hp : 2 ^ (64 - n) = p at *
  have hp0 : 0 < p := by rw [← hp]; exact Nat.two_pow_pos _
  have hq0 : 0 < q := by rw [← hq]; exact Nat.two_pow_pos _
  have hd := Nat.div_add_mod y p
  have hm := Nat.mod_lt y hp0
  generalize y / p = u at *
  generalize y % p = v at *
  have hxd := Nat.div_add_mod x p
  have hxm := Nat.mod_lt x hp0
  generalize x / p = s at *
  generalize x % p = t at *
  have hu : u < q := by
    have : p * u < q * p := by omega
    rw [Nat.mul_comm p u] at this
    exact Nat.lt_of_mul_lt_mul_right this
  have e1 : x * q = s * 18446744073709551616 + t * q := by
    rw [← hxd, ← hpq]; grind
  have ht : t * q + q ≤ 18446744073709551616 := by
    rw [← hpq]
    have : (t + 1) * q ≤ p * q := Nat.mul_le_mul_right _ (by omega)
    rw [Nat.add_mul, Nat.one_mul, Nat.mul_comm p q] at this
    exact this
  have e2 : y * q = u * 18446744073709551616 + v * q := by
    rw [← hd, ← hpq]; grind
  have hv : v * q < 18446744073709551616 := by
    rw [← hpq, Nat.mul_comm q p]
    exact Nat.mul_lt_mul_of_pos_right hm hq0
  have e3 : (x * 18446744073709551616 + y) * q = (s * 18446744073709551616 + t * q) * 18446744073709551616 + u * 18446744073709551616 + v * q := by
    rw [Nat.add_mul, e2, ← e1]; grind
  rw [e3, e1, e2]
  have hmod : t * q % q = 0 := Nat.mul_mod_left _ _
  generalize t * q = tq at *
  generalize v * q = vq at *
  have e4 : (s * 18446744073709551616 + tq) % 18446744073709551616 = tq := by omega
  rw [e4]
  refine ⟨?_, ?_, hmod, hu, ?_⟩ <;> omega

theorem up_arith_hi (a b : Int) (n : Nat) (ha : 0 ≤ a) (hb : 0 ≤ b) (hn : 64 ≤ n) :
    IntKind.u64.wrap (b * 2 ^ (n - 64)) = hi (wn a b * 2 ^ n % W128) ∧ 0 = lo (wn a b * 2 ^ n % W128) := by
  obtain ⟨x, rfl⟩ := Int.eq_ofNat_of_zero_le ha
  obtain ⟨y, rfl⟩ := Int.eq_ofNat_of_zero_le hb
  obtain ⟨k, rfl⟩ : ∃ k, n = 64 + k := ⟨n - 64, by omega⟩
  rw [W128_eq]
  have e : wn x y * 2 ^ (64 + k) = (x * 2 ^ k) * 340282366920938463463374607431768211456 + (y * 2 ^ k) * 18446744073709551616 := by
    unfold wn
    simp only [Int.toNat_natCast]
    rw [Nat.pow_add, show (2 : Nat) ^ 64 = 18446744073709551616 from rfl]
    generalize 2 ^ k = p
    grind
  rw [e, IntKind.wrap_u64, show 64 + k - 64 = k from by omega]
  unfold hi lo
  have e2 : (y : Int) * 2 ^ k = ((y * 2 ^ k : Nat) : Int) := by simp
  rw [e2]
  generalize y * 2 ^ k = p
  generalize x * 2 ^ k = q
  omega

theorem up_arith_lo (a b : Int) (n : Nat) (ha : 0 ≤ a) (hb : 0 ≤ b) (hb2 : b ≤ 18446744073709551615) (hn : n < 64) :
    bits BinOp.or IntKind.u64 (IntKind.u64.wrap (a * 2 ^ n)) (b / 2 ^ (64 - n)) = hi (wn a b * 2 ^ n % W128) ∧ IntKind.u64.wrap (b * 2 ^ n) = lo (wn a b * 2 ^ n % W128) := by
  obtain ⟨x, rfl⟩ := Int.eq_ofNat_of_zero_le ha
  obtain ⟨y, rfl⟩ := Int.eq_ofNat_of_zero_le hb
  obtain ⟨h1, h2, h3, h4, h5⟩ := up_parts x y n (by omega) (by omega)
  unfold hi lo wn
  simp only [Int.toNat_natCast]
  rw [h1, h2, IntKind.wrap_u64, IntKind.wrap_u64]
  have e1 : (x : Int) * 2 ^ n % 18446744073709551616 = ((x * 2 ^ n % 18446744073709551616 : Nat) : Int) := by simp
  have e2 : (y : Int) * 2 ^ n % 18446744073709551616 = ((y * 2 ^ n % 18446744073709551616 : Nat) : Int) := by simp
  have e3 : (y : Int) / 2 ^ (64 - n) = ((y / 2 ^ (64 - n) : Nat) : Int) := by simp
  rw [e1, e2, e3, u64_or_nat _ _ (by omega) (by omega), nat_join n _ _ h3 h4]
  exact ⟨rfl, rfl⟩

theorem dm (u w z p : Nat) (h : w + p ≤ 18446744073709551616) (h2 : z < p) : (u * 18446744073709551616 + w + z) / 18446744073709551616 = u ∧ (u * 18446744073709551616 + w + z) % 18446744073709551616 = z + w := by
  constructor <;> omega
theorem dn_parts (x y n : Nat) (hn : n < 64) (hx : x < 18446744073709551616) (hy : y < 18446744073709551616) :
    (x * 18446744073709551616 + y) / 2 ^ n / 18446744073709551616 = x / 2 ^ n
    ∧ (x * 18446744073709551616 + y) / 2 ^ n % 18446744073709551616 = y / 2 ^ n + x * 2 ^ (64 - n) % 18446744073709551616
    ∧ x * 2 ^ (64 - n) % 18446744073709551616 % 2 ^ (64 - n) = 0 ∧ y / 2 ^ n < 2 ^ (64 - n) := by
  have hpq : 2 ^ n * 2 ^ (64 - n) = 18446744073709551616 := by
    rw [← Nat.pow_add, show n + (64 - n) = 64 from by omega]
  generalize hq : 2 ^ n = q at *
  generalize hp : 2 ^ (64 - n) = p at *
  have hp0 : 0 < p := by rw [← hp]; exact Nat.two_pow_pos _
  have hq0 : 0 < q := by rw [← hq]; exact Nat.two_pow_pos _
  have hd := Nat.div_add_mod x q
  have hm := Nat.mod_lt x hq0
  have hyq : y / q < p := by
    rw [Nat.div_lt_iff_lt_mul hq0, Nat.mul_comm]; omega
  generalize x / q = u at *
  generalize x % q = v at *
  -- x = q u + v;  (x 2^64 + y) / q = (q u + v) p + y / q
  have e : (x * 18446744073709551616 + y) / q = x * p + y / q := by
    rw [← hpq, show x * (q * p) + y = q * (x * p) + y from by grind, Nat.mul_add_div hq0]
  rw [e]
  have e1 : x * p = u * 18446744073709551616 + v * p := by rw [← hd, ← hpq]; grind
  have hv : v * p + p ≤ 18446744073709551616 := by
    rw [← hpq]
    have : (v + 1) * p ≤ q * p := Nat.mul_le_mul_right _ (by omega)
    rw [Nat.add_mul, Nat.one_mul] at this
    exact this
  have hmod : v * p % p = 0 := Nat.mul_mod_left _ _
  rw [e1]
  generalize v * p = w at *
  generalize y / q = z at *
  have e4 : (u * 18446744073709551616 + w) % 18446744073709551616 = w := by omega
  rw [e4]
  obtain ⟨k1, k2⟩ := dm u w z p (by omega) hyq
  exact ⟨k1, k2, hmod, hyq⟩

theorem dn_arith_lo (a b : Int) (n : Nat) (ha : 0 ≤ a) (ha2 : a ≤ 18446744073709551615) (hb : 0 ≤ b) (hb2 : b ≤ 18446744073709551615) (hn : n < 64) :
    a / 2 ^ n = hi (wn a b / 2 ^ n) ∧ bits BinOp.or IntKind.u64 (b / 2 ^ n) (IntKind.u64.wrap (a * 2 ^ (64 - n))) = lo (wn a b / 2 ^ n) := by
  obtain ⟨x, rfl⟩ := Int.eq_ofNat_of_zero_le ha
  obtain ⟨y, rfl⟩ := Int.eq_ofNat_of_zero_le hb
  obtain ⟨h1, h2, h3, h4⟩ := dn_parts x y n hn (by omega) (by omega)
  unfold hi lo wn
  simp only [Int.toNat_natCast]
  rw [h1, h2, IntKind.wrap_u64]
  have e1 : (x : Int) * 2 ^ (64 - n) % 18446744073709551616 = ((x * 2 ^ (64 - n) % 18446744073709551616 : Nat) : Int) := by simp
  have e2 : (x : Int) / 2 ^ n = ((x / 2 ^ n : Nat) : Int) := by simp
  have e3 : (y : Int) / 2 ^ n = ((y / 2 ^ n : Nat) : Int) := by simp
  have e5 : y / 2 ^ n ≤ y := Nat.div_le_self _ _
  rw [e1, e2, e3, u64_or_nat _ _ (by omega) (by omega), Nat.or_comm, nat_join (64 - n) _ _ h3 h4, Nat.add_comm]
  exact ⟨rfl, rfl⟩

theorem dn_arith_hi (a b : Int) (n : Nat) (ha : 0 ≤ a) (ha2 : a ≤ 18446744073709551615) (hb : 0 ≤ b) (hb2 : b ≤ 18446744073709551615) (hn : 64 ≤ n) :
    0 = hi (wn a b / 2 ^ n) ∧ a / 2 ^ (n - 64) = lo (wn a b / 2 ^ n) := by
  obtain ⟨x, rfl⟩ := Int.eq_ofNat_of_zero_le ha
  obtain ⟨y, rfl⟩ := Int.eq_ofNat_of_zero_le hb
  obtain ⟨k, rfl⟩ : ∃ k, n = 64 + k := ⟨n - 64, by omega⟩
  unfold hi lo wn
  simp only [Int.toNat_natCast]
  rw [show 64 + k - 64 = k from by omega]
  have e : (x * 18446744073709551616 + y) / 2 ^ (64 + k) = x / 2 ^ k := by
    rw [Nat.pow_add, ← Nat.div_div_eq_div_mul, show (2 : Nat) ^ 64 = 18446744073709551616 from rfl, show (x * 18446744073709551616 + y) / 18446744073709551616 = x from by omega]
  rw [e]
  have e3 : (x : Int) / 2 ^ k = ((x / 2 ^ k : Nat) : Int) := by simp
  rw [e3]
  have := Nat.div_le_self x (2 ^ k)
  generalize x / 2 ^ k = z at *
  clear e e3
  omega

theorem wn_lt (a b : Int) (ha2 : a ≤ 18446744073709551615) (hb2 : b ≤ 18446744073709551615) : wn a b < W128 := by
  unfold wn; rw [W128_eq]; omega
theorem wn_hi_lo (n : Nat) : wn (hi n) (lo n) = n := by unfold wn hi lo; omega
theorem hi_nonneg (n : Nat) : 0 ≤ hi n := by unfold hi; omega
theorem lo_nonneg (n : Nat) : 0 ≤ lo n := by unfold lo; omega
theorem lo_le (n : Nat) : lo n ≤ 18446744073709551615 := by unfold lo; omega
theorem hi_le (n : Nat) (h : n < W128) : hi n ≤ 18446744073709551615 := by unfold hi; rw [W128_eq] at h; omega

theorem dn_arith_all (a b : Int) (n : Nat) (ha : 0 ≤ a) (ha2 : a ≤ 18446744073709551615) (hb : 0 ≤ b) (hb2 : b ≤ 18446744073709551615) (hn : 128 ≤ n) :
    0 = hi (wn a b / 2 ^ n) ∧ 0 = lo (wn a b / 2 ^ n) ∧ (!a == 0 || !b == 0) = decide (wn a b % 2 ^ n ≠ 0) := by
  have h1 := wn_lt a b ha2 hb2
  have h2 : W128 ≤ 2 ^ n := by
    rw [show W128 = 2 ^ 128 from rfl]
    exact Nat.pow_le_pow_right (by omega) hn
  rw [Nat.div_eq_of_lt (by omega), Nat.mod_eq_of_lt (by omega)]
  refine ⟨rfl, rfl, ?_⟩
  rw [Bool.eq_iff_iff]
  have e : wn a b = a.toNat * 18446744073709551616 + b.toNat := rfl
  simp only [Bool.or_eq_true, Bool.not_eq_true', beq_eq_false_iff_ne, ne_eq, decide_eq_true_eq]
  omega

/-- bits are lost just if what goes up again is another one -/
theorem lost_iff (a b : Int) (n : Nat) (ha : 0 ≤ a) (ha2 : a ≤ 18446744073709551615) (hb : 0 ≤ b) (hb2 : b ≤ 18446744073709551615) :
    (!(hi (wn a b / 2 ^ n * 2 ^ n % W128) == a) || !(lo (wn a b / 2 ^ n * 2 ^ n % W128) == b)) = decide (wn a b % 2 ^ n ≠ 0) := by
  have hlt := wn_lt a b ha2 hb2
  have hd := Nat.div_add_mod (wn a b) (2 ^ n)
  have hle : wn a b / 2 ^ n * 2 ^ n ≤ wn a b := Nat.div_mul_le_self _ _
  rw [Nat.mod_eq_of_lt (by omega), Bool.eq_iff_iff]
  simp only [Bool.or_eq_true, Bool.not_eq_true', beq_eq_false_iff_ne, ne_eq, decide_eq_true_eq]
  rw [Nat.mul_comm] at hd
  generalize wn a b / 2 ^ n * 2 ^ n = u at *
  generalize wn a b % 2 ^ n = v at *
  have e : wn a b = a.toNat * 18446744073709551616 + b.toNat := rfl
  unfold hi lo
  omega

/-- how many bits a number has -/
def blen (n : Nat) : Nat := if n = 0 then 0 else n.log2 + 1

theorem blen_of {n k : Nat} (h1 : 2 ^ k ≤ n) (h2 : n < 2 ^ (k + 1)) : blen n = k + 1 := by
  have h0 : n ≠ 0 := by have := Nat.two_pow_pos k; omega
  unfold blen
  rw [if_neg h0]
  have e : n.log2 = k := (Nat.log2_eq_iff h0).2 ⟨h1, h2⟩
  rw [e]

theorem lib_blen (n : Nat) (h : n < 18446744073709551616) : Lib.bitLen n = blen n := by
  by_cases h0 : n = 0
  · subst h0; rfl
  · obtain ⟨h1, h2, h3⟩ := Lib.bitLenAux_bounds 64 n h h0
    unfold Lib.bitLen
    obtain ⟨k, hk⟩ : ∃ k, Lib.bitLenAux 64 n = k + 1 := ⟨Lib.bitLenAux 64 n - 1, by omega⟩
    rw [hk] at h2 h3 ⊢
    rw [blen_of (k := k) (by simpa using h2) h3]

theorem blen_wn (x y : Nat) (hy : y < 18446744073709551616) : blen (wn (x : Int) (y : Int)) = if x > 0 then 64 + blen x else blen y := by
  unfold wn
  simp only [Int.toNat_natCast]
  by_cases h : x > 0
  · rw [if_pos h]
    have h0 : x ≠ 0 := by omega
    have a1 := Nat.lt_log2_self (n := x)
    have a2 := Nat.log2_self_le h0
    have e : blen x = x.log2 + 1 := by unfold blen; rw [if_neg h0]
    rw [e, blen_of (k := x.log2 + 64)]
    · omega
    · rw [Nat.pow_add, show (2 : Nat) ^ 64 = 18446744073709551616 from rfl]
      generalize 2 ^ x.log2 = u at *
      omega
    · rw [show x.log2 + 64 + 1 = (x.log2 + 1) + 64 from by omega, Nat.pow_add _ _ 64, show (2 : Nat) ^ 64 = 18446744073709551616 from rfl]
      generalize 2 ^ (x.log2 + 1) = u at *
      omega
  · have : x = 0 := by omega
    subst this
    simp

theorem blen_le {n k : Nat} (h : n < 2 ^ k) : blen n ≤ k := by
  unfold blen
  split
  · omega
  · rename_i h0
    have := (Nat.log2_lt h0).2 h
    omega
theorem blen_wn_le (a b : Int) (ha2 : a ≤ 18446744073709551615) (hb2 : b ≤ 18446744073709551615) : blen (wn a b) ≤ 128 :=
  blen_le (wn_lt a b ha2 hb2)

/-- how many places are cut off -/
def cutN (n : Nat) (e : Int) : Nat := max (blen n - 53) (-1074 - e).toNat
theorem lt_blen (n : Nat) : n < 2 ^ blen n := by
  unfold blen
  split
  · omega
  · exact Nat.lt_log2_self
theorem cut_lt (n : Nat) (e : Int) : n / 2 ^ cutN n e < 9007199254740992 := by
  rw [Nat.div_lt_iff_lt_mul (Nat.two_pow_pos _), show 9007199254740992 = 2 ^ 53 from rfl, ← Nat.pow_add]
  refine Nat.lt_of_lt_of_le (lt_blen n) (Nat.pow_le_pow_right (by omega) ?_)
  unfold cutN; omega
end Bu
