/- Directed rounding of a quotient (times S), and that 'rounded' does it. Sums, products and quotients, rounded: what package dir computes, in plain words. -/
import Derived.Test.YtlhlcefkmhhmjaaGreatZ03
namespace Bu
set_option linter.all false

/-- the greatest rung that is no more than A / B; the least that is no less -/
def flQ (A B : Nat) : Nat := fl (A / B)
def ceQ (A B : Nat) : Nat := ce ((A + B - 1) / B)

theorem le_flQ {r A B : Nat} (hB : 0 < B) : r ≤ flQ A B ↔ nv r * B ≤ A := by
  unfold flQ; rw [le_fl, Nat.le_div_iff_mul_le hB]
theorem ceQ_le {r A B : Nat} (hB : 0 < B) : ceQ A B ≤ r ↔ A ≤ nv r * B := by
  unfold ceQ
  rw [ce_le]
  constructor
  · intro h
    have h1 : (A + B - 1) / B < nv r + 1 := by omega
    rw [Nat.div_lt_iff_lt_mul hB, Nat.add_mul, Nat.one_mul] at h1
    omega
  · intro h
    have h1 : (A + B - 1) / B < nv r + 1 := by
      rw [Nat.div_lt_iff_lt_mul hB, Nat.add_mul, Nat.one_mul]
      omega
    omega

theorem flQ_eq {r A B : Nat} (hB : 0 < B) (h1 : nv r * B ≤ A) (h2 : A < nv (r + 1) * B) : flQ A B = r := by
  have a := (le_flQ hB).2 h1
  have b : ¬ (r + 1 ≤ flQ A B) := by rw [le_flQ hB]; omega
  omega
theorem ceQ_eq {r A B : Nat} (hB : 0 < B) (h1 : nv r * B < A) (h2 : A ≤ nv (r + 1) * B) : ceQ A B = r + 1 := by
  have a := (ceQ_le hB).2 h2
  have b : ¬ (ceQ A B ≤ r) := by rw [ceQ_le hB]; omega
  omega
theorem ceQ_exact {r A B : Nat} (hB : 0 < B) (h : A = nv r * B) : ceQ A B = r := by
  have a := (ceQ_le (r := r) (A := A) hB).2 (by omega)
  have b : r ≤ ceQ A B := by
    have h2 := (ceQ_le (A := A) hB).1 (Nat.le_refl _)
    have h3 : nv r * B ≤ nv (ceQ A B) * B := by rw [← h]; exact h2
    exact nv_le_iff.1 (Nat.le_of_mul_le_mul_right h3 hB)
  omega

/-- with a sign -/
def flI (A : Int) (B : Nat) : Int := if 0 ≤ A then (flQ A.toNat B : Int) else -(ceQ (-A).toNat B : Int)
def ceI (A : Int) (B : Nat) : Int := -(flI (-A) B)

theorem ceQ_zero {B : Nat} (hB : 0 < B) : ceQ 0 B = 0 := by
  have h : 0 = nv 0 * B := by have := nv_zero; rw [this, Nat.zero_mul]
  exact ceQ_exact hB h
theorem flQ_zero {B : Nat} : flQ 0 B = 0 := by
  have h := fl_zero
  unfold flQ
  rw [Nat.zero_div]
  exact h

theorem le_flI {k A : Int} {B : Nat} (hB : 0 < B) : k ≤ flI A B ↔ nvZ k * (B : Int) ≤ A := by
  have hBi : (0 : Int) < B := by omega
  unfold flI
  by_cases hA : 0 ≤ A
  · rw [if_pos hA]
    obtain ⟨a, rfl⟩ := Int.eq_ofNat_of_zero_le hA
    rw [Int.toNat_natCast]
    by_cases hk : 0 ≤ k
    · obtain ⟨r, rfl⟩ := Int.eq_ofNat_of_zero_le hk
      have := @le_flQ r a B hB
      rw [nvZ_natCast, ← Int.natCast_mul]
      omega
    · have h1 : nvZ k < nvZ 0 := nvZ_lt (by omega)
      rw [nvZ_zero] at h1
      have h2 := Int.mul_neg_of_neg_of_pos h1 hBi
      omega
  · rw [if_neg hA]
    obtain ⟨a, ha⟩ := Int.eq_ofNat_of_zero_le (show 0 ≤ -A by omega)
    rw [ha, Int.toNat_natCast]
    by_cases hk : 0 ≤ k
    · have h1 := nvZ_nonneg hk
      have h2 := Int.mul_nonneg h1 (Int.le_of_lt hBi)
      have h3 : ¬ (ceQ a B ≤ 0) := by rw [ceQ_le hB, nv_zero]; omega
      omega
    · obtain ⟨r, hr⟩ := Int.eq_ofNat_of_zero_le (show 0 ≤ -k by omega)
      have := @ceQ_le r a B hB
      have e : nvZ k = -(nv r : Int) := by rw [← Int.neg_neg k, nvZ_neg, hr, nvZ_natCast]
      rw [e, Int.neg_mul, ← Int.natCast_mul]
      omega

theorem ceI_le {k A : Int} {B : Nat} (hB : 0 < B) : ceI A B ≤ k ↔ A ≤ nvZ k * (B : Int) := by
  unfold ceI
  have h := @le_flI (-k) (-A) B hB
  rw [nvZ_neg, Int.neg_mul] at h
  omega

/-- as a number: up; down -/
def outUp (k : Int) : F × Int := if (T : Int) ≤ k then (F.zero, 10) else (F.of (max k (1 - T)), 0)
def outDn (k : Int) : F × Int := if k ≤ -(T : Int) then (F.zero, 10) else (F.of (min k (T - 1)), 0)
/-- A / B (times S), rounded -/
def rndR (up : Bool) (A : Int) (B : Nat) : F × Int := if up then outUp (ceI A B) else outDn (flI A B)

theorem neg_of {k : Int} (h : -(T : Int) < k ∧ k < T) : (F.of k).neg = F.of (-k) := by
  apply F.ext'
  show -(F.of k).k = _
  rw [F.of_k h, F.of_k (by omega)]

/-- of a magnitude -/
theorem rndR_mag (minus up : Bool) (A B : Nat) :
    rndR up (if minus then -(A : Int) else A) B = if (up != minus) then (if T ≤ ceQ A B then (F.zero, 10) else (F.turn minus (F.of (ceQ A B : Nat)), 0))
      else (F.turn minus (F.of (min (flQ A B) (T - 1) : Nat)), 0) := by
  have hT := T_num
  have ez : ∀ b : Bool, F.turn b (F.of ((0 : Nat) : Int)) = F.of ((0 : Nat) : Int) := by decide +kernel
  cases minus <;> cases up
  · -- down, of what is not below 0
    simp only [rndR, outDn, Bool.false_eq_true, if_false, bne_self_eq_false]
    have e : flI (A : Int) B = (flQ A B : Int) := by
      unfold flI; rw [if_pos (by omega), Int.toNat_natCast]
    rw [e, if_neg (by omega), turn_false]
    rw [show min (flQ A B : Int) ((T : Int) - 1) = ((min (flQ A B) (T - 1) : Nat) : Int) from by omega]
  · simp only [rndR, outUp, if_true, Bool.false_eq_true, if_false, show (true != false) = true from rfl]
    have e : ceI (A : Int) B = (ceQ A B : Int) := by
      unfold ceI flI
      by_cases hA : A = 0
      · subst hA
        rw [if_pos (by omega), show (-((0 : Nat) : Int)).toNat = 0 from rfl, flQ_zero]
        by_cases hB : 0 < B
        · rw [ceQ_zero hB]; rfl
        · have : B = 0 := by omega
          subst this
          decide
      · rw [if_neg (by omega), Int.neg_neg, Int.neg_neg, Int.toNat_natCast]
    rw [e]
    by_cases h : T ≤ ceQ A B
    · rw [if_pos (by omega), if_pos h]
    · rw [if_neg (by omega), if_neg h, turn_false]
      rw [show max (ceQ A B : Int) (1 - (T : Int)) = (ceQ A B : Int) from by omega]
  · simp only [rndR, outDn, if_true, Bool.false_eq_true, if_false, show (false != true) = true from rfl]
    have e : flI (-(A : Int)) B = -(ceQ A B : Int) := by
      unfold flI
      by_cases hA : A = 0
      · subst hA
        rw [if_pos (by omega), show (-((0 : Nat) : Int)).toNat = 0 from rfl, flQ_zero]
        by_cases hB : 0 < B
        · rw [ceQ_zero hB]; rfl
        · have : B = 0 := by omega
          subst this
          decide
      · rw [if_neg (by omega), Int.neg_neg, Int.toNat_natCast]
    rw [e]
    by_cases h : T ≤ ceQ A B
    · rw [if_pos (by omega), if_pos h]
    · rw [if_neg (by omega), if_neg h, turn_true, neg_of (by omega)]
      rw [show min (-(ceQ A B : Int)) ((T : Int) - 1) = -(ceQ A B : Int) from by omega]
  · simp only [rndR, outUp, if_true, bne_self_eq_false, Bool.false_eq_true, if_false]
    have e : ceI (-(A : Int)) B = -(flQ A B : Int) := by
      unfold ceI flI
      rw [Int.neg_neg, if_pos (by omega), Int.toNat_natCast]
    rw [e, if_neg (by omega), turn_true, neg_of (by omega)]
    rw [show max (-(flQ A B : Int)) (1 - (T : Int)) = -((min (flQ A B) (T - 1) : Nat) : Int) from by omega]

/-- 'rounded' rounds: of A / B (times S), which n * 2^e tells but for less than one of its last place -/
theorem rndG_eq_rndR {minus more up : Bool} {n A B : Nat} {e : Int} (hB : 0 < B)
    (h1 : n * 2 ^ (e + 1074).toNat * B ≤ A * 2 ^ (-(e + 1074)).toNat) (h2 : A * 2 ^ (-(e + 1074)).toNat < (n + 1) * 2 ^ (e + 1074).toNat * B)
    (h3 : more = true ↔ A * 2 ^ (-(e + 1074)).toNat ≠ n * 2 ^ (e + 1074).toNat * B) (h4 : more = true → 53 ≤ blen n) :
    rndG minus n more e up = rndR up (if minus then -(A : Int) else A) B := by
  have hT := T_num
  have hP : P = 4503599627370496 := rfl
  rw [rndR_mag]
  unfold rndG
  obtain ⟨X, hX⟩ : ∃ X, cutN n e = X := ⟨_, rfl⟩
  obtain ⟨p, hp⟩ : ∃ p, (e + 1074).toNat = p := ⟨_, rfl⟩
  obtain ⟨q, hq⟩ : ∃ q, (-(e + 1074)).toNat = q := ⟨_, rfl⟩
  rw [hX]
  rw [hp, hq] at h1 h2 h3
  -- s: the place behind the cut
  have hXq : q ≤ X := by unfold cutN at hX; omega
  obtain ⟨s, hs⟩ : ∃ s : Nat, e + X = (s : Int) - 1074 := ⟨(e + X + 1074).toNat, by unfold cutN at hX; omega⟩
  have hsX : s + q = p + X := by omega
  have hcl := cut_lt n e
  rw [hX] at hcl
  -- what is kept, the rest
  have hd := Nat.div_add_mod n (2 ^ X)
  have hr := Nat.mod_lt n (Nat.two_pow_pos X)
  have hXpos := Nat.two_pow_pos X
  generalize hm0 : n / 2 ^ X = m0 at *
  generalize hrest : n % 2 ^ X = rest at *
  have hq0 := Nat.two_pow_pos q
  have hp0 := Nat.two_pow_pos p
  have hs0 := Nat.two_pow_pos s
  have hsq : 2 ^ s * 2 ^ q = 2 ^ p * 2 ^ X := by rw [← Nat.pow_add, ← Nat.pow_add, hsX]
  -- m0 2^s B ≤ A < (m0 + 1) 2^s B
  have b1 : m0 * 2 ^ s * B ≤ A := by
    refine Nat.le_of_mul_le_mul_right ?_ hq0
    refine Nat.le_trans ?_ h1
    rw [show m0 * 2 ^ s * B * 2 ^ q = (2 ^ X * m0) * 2 ^ p * B from by
      rw [show m0 * 2 ^ s * B * 2 ^ q = m0 * (2 ^ s * 2 ^ q) * B from by grind, hsq]; grind]
    exact Nat.mul_le_mul_right _ (Nat.mul_le_mul_right _ (by omega))
  have b2 : A < (m0 + 1) * 2 ^ s * B := by
    refine Nat.lt_of_mul_lt_mul_right (a := 2 ^ q) ?_
    refine Nat.lt_of_lt_of_le h2 ?_
    rw [show (m0 + 1) * 2 ^ s * B * 2 ^ q = (2 ^ X * m0 + 2 ^ X) * 2 ^ p * B from by
      rw [show (m0 + 1) * 2 ^ s * B * 2 ^ q = (m0 + 1) * (2 ^ s * 2 ^ q) * B from by grind, hsq]; grind]
    exact Nat.mul_le_mul_right _ (Nat.mul_le_mul_right _ (by omega))
  -- nothing is lost just if A is that
  have b3 : (rest ≠ 0 ∨ more = true) ↔ A ≠ m0 * 2 ^ s * B := by
    rw [h3]
    have k1 : A = m0 * 2 ^ s * B ↔ A * 2 ^ q = (2 ^ X * m0) * 2 ^ p * B := by
      rw [← Nat.mul_left_inj (Nat.ne_of_gt hq0) (b := A)]
      rw [show m0 * 2 ^ s * B * 2 ^ q = m0 * (2 ^ s * 2 ^ q) * B from by grind, hsq, show m0 * (2 ^ p * 2 ^ X) * B = 2 ^ X * m0 * 2 ^ p * B from by grind]
    constructor
    · rintro (h | h) c
      · rw [k1] at c
        rw [c, show n = 2 ^ X * m0 + rest from hd.symm] at h1
        have : (2 ^ X * m0 + rest) * 2 ^ p ≤ 2 ^ X * m0 * 2 ^ p := Nat.le_of_mul_le_mul_right h1 hB
        have := Nat.le_of_mul_le_mul_right this hp0
        omega
      · rw [k1] at c
        by_cases hz : rest = 0
        · apply h
          rw [c, ← hd, hz, Nat.add_zero]
        · rw [c, show n = 2 ^ X * m0 + rest from hd.symm] at h1
          have : (2 ^ X * m0 + rest) * 2 ^ p ≤ 2 ^ X * m0 * 2 ^ p := Nat.le_of_mul_le_mul_right h1 hB
          have := Nat.le_of_mul_le_mul_right this hp0
          omega
    · intro h
      by_cases hz : rest = 0
      · right
        intro c
        apply h
        rw [k1, c, ← hd, hz, Nat.add_zero]
      · exact Or.inl hz
  -- where what is kept is short, nothing is lost
  have b4 : (s = 0 ∨ P ≤ m0) ∨ A = m0 * 2 ^ s * B := by
    by_cases c : 53 ≤ blen n
    · left
      by_cases c2 : s = 0
      · exact Or.inl c2
      · right
        have hXe : X = blen n - 53 := by unfold cutN at hX; omega
        have hn0 : n ≠ 0 := by intro c3; subst c3; simp [blen] at c
        have e1 : blen n = n.log2 + 1 := by unfold blen; rw [if_neg hn0]
        rw [← hm0, Nat.le_div_iff_mul_le hXpos, hP, show 4503599627370496 = 2 ^ 52 from rfl, ← Nat.pow_add]
        exact Nat.le_trans (Nat.pow_le_pow_right (by omega) (by omega)) (Nat.log2_self_le hn0)
    · by_cases c2 : s = 0
      · exact Or.inl (Or.inl c2)
      · right
        have hXe : X = 0 := by unfold cutN at hX; omega
        by_cases hA : A = m0 * 2 ^ s * B
        · exact hA
        · exfalso
          rcases b3.2 hA with h | h
          · rw [hXe, Nat.pow_zero] at hr; omega
          · exact c (h4 h)
  have hlost : decide (rest ≠ 0) = !decide (rest = 0) := by simp
  have hmB : ∀ m : Nat, m ≤ 2 * P → m * 2 ^ s * B = nv (fl (m * 2 ^ s)) * B := fun m hm => by rw [nv_fl_exact hm]
  have hdy : ∀ m : Nat, F.dy m (e + X) = F.of (fl (m * 2 ^ s) : Nat) := by
    intro m; unfold F.dy; rw [hs, show ((s : Int) - 1074 + 1074).toNat = s from by omega]
  -- too great?
  have hbig : ∀ m : Nat, m ≠ 0 → m ≤ 2 * P → (1024 < (blen m : Int) + (e + X) ↔ T ≤ fl (m * 2 ^ s)) := by
    intro m h0 hm
    rw [le_fl, nv_T, hs]
    have l1 := lt_blen m
    have e1 : blen m = m.log2 + 1 := by unfold blen; rw [if_neg h0]
    have l2 := Nat.log2_self_le h0
    obtain ⟨t, ht⟩ : ∃ t : Nat, t = 2046 := ⟨_, rfl⟩
    rw [← ht, show P * 2 ^ t = 2 ^ (52 + t) from by rw [Nat.pow_add]; rfl]
    constructor
    · intro h
      refine Nat.le_trans ?_ (Nat.mul_le_mul_right _ l2)
      rw [← Nat.pow_add]
      exact Nat.pow_le_pow_right (by omega) (by omega)
    · intro h
      have h5 : 2 ^ (52 + t) < 2 ^ (blen m + s) := by
        rw [Nat.pow_add 2 (blen m)]
        exact Nat.lt_of_le_of_lt h (Nat.mul_lt_mul_of_pos_right l1 hs0)
      have := (Nat.pow_lt_pow_iff_right (by omega : 1 < 2)).1 h5
      omega
  have hm0P : m0 < 2 * P := by omega
  -- the exact case, and the others
  by_cases hex : A = m0 * 2 ^ s * B
  · have hno : rest = 0 ∧ more = false := by
      have := mt b3.1 (by rw [ne_eq, Classical.not_not]; exact hex)
      constructor
      · by_cases c : rest = 0
        · exact c
        · exact absurd (Or.inl c) this
      · cases more
        · rfl
        · exact absurd (Or.inr rfl) this
    have hmU : mUp minus more up (decide (rest ≠ 0)) m0 = m0 := by unfold mUp; rw [hno.1, hno.2]; simp
    rw [hmU]
    have hce : ceQ A B = fl (m0 * 2 ^ s) := ceQ_exact hB (by rw [hex, hmB m0 (by omega)])
    have hfl : flQ A B = fl (m0 * 2 ^ s) := by
      unfold flQ; rw [hex, Nat.mul_div_cancel _ hB]
    rw [hce, hfl]
    unfold rndOut
    by_cases hz : m0 = 0
    · subst hz
      rw [if_pos rfl, Nat.zero_mul, fl_zero]
      have ez : ∀ b : Bool, F.turn b (F.of ((0 : Nat) : Int)) = F.zero := by decide +kernel
      rw [if_neg (show ¬ T ≤ 0 by omega), Nat.min_eq_left (by omega), ez]
      split <;> rfl
    · rw [if_neg hz]
      have hb := hbig m0 hz (by omega)
      by_cases g : 1024 < (blen m0 : Int) + (e + X)
      · have g2 := hb.1 g
        rw [if_pos g, if_pos g2, Nat.min_eq_right (by omega)]
        rw [show F.of ((T - 1 : Nat) : Int) = F.max from by decide +kernel]
      · have g2 : ¬ T ≤ fl (m0 * 2 ^ s) := fun c => g (hb.2 c)
        rw [if_neg g, if_neg g2, Nat.min_eq_left (by omega), hdy]
        split <;> rfl
  · have hyes := b3.2 hex
    have hnorm : s = 0 ∨ P ≤ m0 := by rcases b4 with h | h
                                      · exact h
                                      · exact absurd h hex
    have n1 := nv_mk s m0 (by omega) hnorm
    have n2 := nv_mk s (m0 + 1) (by omega) (by omega)
    have f1 : fl (m0 * 2 ^ s) = s * P + m0 := by rw [← n1, fl_nv]
    have f2 : fl ((m0 + 1) * 2 ^ s) = s * P + (m0 + 1) := by rw [← n2, fl_nv]
    have hfl : flQ A B = s * P + m0 := flQ_eq hB (by rw [n1]; exact b1) (by rw [Nat.add_assoc, n2]; exact b2)
    have hce : ceQ A B = s * P + m0 + 1 := ceQ_eq hB (by rw [n1]; omega) (by rw [Nat.add_assoc, n2]; omega)
    have hyesb : (decide (rest ≠ 0) || more) = true := by
      rcases hyes with h | h
      · simp [h]
      · simp [h]
    by_cases aw : (up != minus) = true
    · have hmU : mUp minus more up (decide (rest ≠ 0)) m0 = m0 + 1 := by unfold mUp; rw [aw, hyesb]; rfl
      rw [hmU, aw, if_pos rfl, hce]
      unfold rndOut
      rw [if_neg (by omega)]
      have hb := hbig (m0 + 1) (by omega) (by omega)
      rw [f2] at hb
      by_cases g : 1024 < (blen (m0 + 1) : Int) + (e + X)
      · have g2 := hb.1 g
        rw [if_pos g, if_pos rfl, if_pos (by omega)]
      · have g2 : ¬ T ≤ s * P + (m0 + 1) := fun c => g (hb.2 c)
        rw [if_neg g, if_neg (by omega), hdy, f2, Nat.add_assoc]
    · have aw2 : (up != minus) = false := by simpa using aw
      have hmU : mUp minus more up (decide (rest ≠ 0)) m0 = m0 := by unfold mUp; rw [aw2]; rfl
      rw [hmU, aw2, hfl]
      unfold rndOut
      by_cases hz : m0 = 0
      · subst hz
        have hs1 : s = 0 := by omega
        subst hs1
        rw [if_pos rfl]
        have ez : ∀ b : Bool, F.turn b (F.of ((0 : Nat) : Int)) = F.zero := by decide +kernel
        rw [Nat.zero_mul, Nat.zero_add, Nat.min_eq_left (by omega), ez]
        simp
      · rw [if_neg hz]
        have hb := hbig m0 hz (by omega)
        rw [f1] at hb
        by_cases g : 1024 < (blen m0 : Int) + (e + X)
        · have g2 := hb.1 g
          rw [if_pos g, Nat.min_eq_right (by omega)]
          rw [show F.of ((T - 1 : Nat) : Int) = F.max from by decide +kernel]
          simp
        · have g2 : ¬ T ≤ s * P + m0 := fun c => g (hb.2 c)
          rw [if_neg g, Nat.min_eq_left (by omega), hdy, f1]
          simp

theorem flI_nvZ (k : Int) : flI (nvZ k) 1 = k := by
  have h1 := (le_flI (k := k) (A := nvZ k) (B := 1) (by omega)).2 (by omega)
  have h2 := (le_flI (k := flI (nvZ k) 1) (A := nvZ k) (B := 1) (by omega)).1 (Int.le_refl _)
  have h3 : nvZ (flI (nvZ k) 1) ≤ nvZ k := by omega
  have := nvZ_le_iff.1 h3
  omega
theorem ceI_nvZ (k : Int) : ceI (nvZ k) 1 = k := by
  unfold ceI; rw [← nvZ_neg, flI_nvZ]; omega
theorem rndR_nvZ (up : Bool) (k : Int) : rndR up (nvZ k) 1 = if up then outUp k else outDn k := by
  unfold rndR; rw [flI_nvZ, ceI_nvZ]

/-- the number beside -/
def nextF (x : F) (up : Bool) : F × Int := if up then outUp (x.k + 1) else outDn (x.k - 1)

/-- an exact one -/
theorem rndG_nv {minus up : Bool} {n r : Nat} {e : Int} (he : -1074 ≤ e) (h : n * 2 ^ (e + 1074).toNat = nv r) :
    rndG minus n false e up = if up then outUp (if minus then -(r : Int) else r) else outDn (if minus then -(r : Int) else r) := by
  have h0 : (-(e + 1074)).toNat = 0 := by omega
  rw [rndG_eq_rndR (A := nv r) (B := 1) (by omega) (by rw [h, h0]; simp) (by
    rw [h0, Nat.add_mul, h]; have := Nat.two_pow_pos (e + 1074).toNat; omega) (by rw [h, h0]; simp) (by simp)]
  have e : (if minus then -(nv r : Int) else (nv r : Int)) = nvZ (if minus then -(r : Int) else r) := by
    cases minus
    · simp only [Bool.false_eq_true, if_false]; rw [nvZ_natCast]
    · simp only [if_true]; rw [nvZ_neg, nvZ_natCast]
  rw [e, rndR_nvZ]

theorem nv_up (r : Nat) : (man r + 1) * 2 ^ pl r = nv (r + 1) := by
  obtain ⟨s, m, rfl, h1, h2⟩ := rung_mk r
  have hn := nv_mk s m (by omega) h2
  rw [Nat.add_assoc, nv_mk s (m + 1) (by omega) (by omega)]
  -- man, pl of s P + m
  have hP := P_pos
  have e1 : man (s * P + m) = m ∧ pl (s * P + m) = s := by
    by_cases h3 : m < P
    · have hs : s = 0 := by omega
      subst hs
      unfold man pl
      simp [h3, Nat.div_eq_of_lt h3]
    · have e0 : s * P + m = (s + 1) * P + (m - P) := by rw [Nat.add_mul]; omega
      have hlt : m - P < P := by omega
      have e2 : ¬ ((s + 1) * P + (m - P) < P) := by
        have : 1 * P ≤ (s + 1) * P := Nat.mul_le_mul_right _ (by omega)
        omega
      unfold man pl
      rw [e0, if_neg e2, Nat.mul_comm (s+1) P, Nat.mul_add_mod, Nat.mod_eq_of_lt hlt, Nat.mul_add_div hP, Nat.div_eq_of_lt hlt]
      omega
  rw [e1.1, e1.2]

theorem man_pl (r : Nat) : (pl r = 0 ∨ P ≤ man r) ∧ man r < 2 * P := by
  have hP := P_pos
  have hm := Nat.mod_lt r hP
  unfold man pl
  by_cases h : r < P
  · rw [if_pos h, Nat.div_eq_of_lt h]; omega
  · rw [if_neg h]; omega

theorem nv_dn (r : Nat) (h : 1 ≤ r) (h2 : ¬ (man r = P ∧ 1 ≤ pl r)) : (man r - 1) * 2 ^ pl r = nv (r - 1) := by
  obtain ⟨t, rfl⟩ : ∃ t, r = t + 1 := ⟨r - 1, by omega⟩
  have h3 := man_pl (t + 1)
  have hm : man (t + 1) ≠ 0 := fun c => by have := man_zero _ c; omega
  obtain ⟨m, hmm⟩ : ∃ m, man (t + 1) = m + 1 := ⟨man (t + 1) - 1, by omega⟩
  have e1 := nv_mk (pl (t + 1)) m (by omega) (by omega)
  have e2 : nv (pl (t + 1) * P + (m + 1)) = nv (t + 1) := by
    rw [nv_mk (pl (t + 1)) (m + 1) (by omega) (by omega)]; unfold nv; rw [hmm]
  have e3 := nv_inj e2
  have e4 : pl (t + 1) * P + m = t := by omega
  rw [hmm, Nat.add_sub_cancel, Nat.add_sub_cancel, ← e1, e4]

theorem nv_dn2 (r : Nat) (h : man r = P) (h2 : 1 ≤ pl r) : 9007199254740991 * 2 ^ (pl r - 1) = nv (r - 1) := by
  have hP : P = 4503599627370496 := rfl
  obtain ⟨s, hs⟩ : ∃ s, pl r = s + 1 := ⟨pl r - 1, by omega⟩
  have e1 := nv_mk s 9007199254740991 (by omega) (by omega)
  have e2 : nv ((s + 1) * P + P) = nv r := by
    rw [nv_mk (s + 1) P (by omega) (by omega)]; unfold nv; rw [h, hs]
  have e3 := nv_inj e2
  have e4 : s * P + 9007199254740991 = r - 1 := by rw [← e3, Nat.add_mul]; omega
  rw [hs, Nat.add_sub_cancel, ← e1, e4]
end Bu
namespace Bu
set_option linter.all false
open Ieee

def dAdd (up : Bool) (a b : F) : F × Int := rndR up (a.z + b.z) 1
def dSub (up : Bool) (a b : F) : F × Int := rndR up (a.z - b.z) 1
def dMul (up : Bool) (a b : F) : F × Int := rndR up (a.z * b.z) S
def dDiv (up : Bool) (a b : F) : F × Int := rndR up (if b.k < 0 then -(a.z * S) else a.z * S) b.z.natAbs

def sg (x : F) : Bool := decide (x.k < 0)
def mn (x : F) : Nat := man x.k.natAbs
def ex (x : F) : Nat := pl x.k.natAbs
theorem z_parts (x : F) : x.z = if sg x = true then -((mn x * 2 ^ ex x : Nat) : Int) else ((mn x * 2 ^ ex x : Nat) : Int) := by
  have h := z_natAbs x
  have h2 := z_sign x
  unfold sg mn ex
  by_cases c : x.k < 0
  · rw [if_pos (by simpa using c), ← h]; have := h2.2 c; omega
  · rw [if_neg (by simpa using c), ← h]; have : ¬ x.z < 0 := fun e => c (h2.1 e); omega
theorem mn_lt (x : F) : mn x < 9007199254740992 := by have := (man_pl x.k.natAbs).2; have : P = 4503599627370496 := rfl; unfold mn; omega
theorem mn_norm (x : F) : ex x = 0 ∨ 4503599627370496 ≤ mn x := (man_pl x.k.natAbs).1
theorem ex_le (x : F) : ex x ≤ 2045 := by
  have h := x.hk
  have hT := T_num
  have hP : P = 4503599627370496 := rfl
  unfold ex pl
  have : x.k.natAbs / P < 2047 := by rw [Nat.div_lt_iff_lt_mul P_pos, hP]; omega
  omega
theorem pow_pos' (n : Nat) : 0 < 2 ^ n := Nat.two_pow_pos n

/-- no more than what is told -/
theorem rndG_exact {minus up : Bool} {n A B : Nat} {e : Int} (hB : 0 < B) (h : n * 2 ^ (e + 1074).toNat * B = A * 2 ^ (-(e + 1074)).toNat) :
    rndG minus n false e up = rndR up (if minus then -(A : Int) else A) B := by
  refine rndG_eq_rndR hB (Nat.le_of_eq h) ?_ (by simp [h]) (by simp)
  rw [← h, Nat.add_mul, Nat.add_mul]
  have : 0 < 1 * 2 ^ (e + 1074).toNat * B := Nat.mul_pos (by have := pow_pos' (e + 1074).toNat; omega) hB
  omega

theorem rndG_mul (up : Bool) (a b : F) : rndG (sg a != sg b) (mn a * mn b) false ((ex a : Int) - 1074 + ((ex b : Int) - 1074)) up = dMul up a b := by
  unfold dMul
  have hz : a.z * b.z = if (sg a != sg b) = true then -((mn a * 2 ^ ex a * (mn b * 2 ^ ex b) : Nat) : Int) else ((mn a * 2 ^ ex a * (mn b * 2 ^ ex b) : Nat) : Int) := by
    rw [z_parts a, z_parts b]
    cases sg a <;> cases sg b <;> simp [Int.mul_neg, Int.neg_mul]
  rw [hz]
  refine rndG_exact S_pos ?_
  obtain ⟨s, hs, hS⟩ := S_pow
  rw [hS]
  have e1 : mn a * 2 ^ ex a * (mn b * 2 ^ ex b) = mn a * mn b * 2 ^ (ex a + ex b) := by rw [Nat.pow_add]; ac_rfl
  rw [e1, Nat.mul_assoc, Nat.mul_assoc (mn a * mn b), ← Nat.pow_add, ← Nat.pow_add]
  congr 2
  omega

/-- of magnitudes in order: sum and difference by 128 bits -/
structure Al (m n d : Nat) : Prop where
  m53 : m < 9007199254740992
  n53 : n < 9007199254740992
  ord : d = 0 → n ≤ m
  nrm : d ≠ 0 → 4503599627370496 ≤ m

def smallN (n d : Nat) : Nat := n * 18446744073709551616 / 2 ^ d
def moreN (n d : Nat) : Bool := decide (n * 18446744073709551616 % 2 ^ d ≠ 0)
/-- what stands in 128 bits -/
def addN (same : Bool) (m n d : Nat) : Nat :=
  if same then m * 18446744073709551616 + smallN n d else m * 18446744073709551616 - smallN n d - (if moreN n d then 1 else 0)

theorem blen_ge {n k : Nat} (h : 2 ^ k ≤ n) : k + 1 ≤ blen n := by
  unfold blen
  have : n ≠ 0 := by have := pow_pos' k; omega
  rw [if_neg this]
  have := (Nat.le_log2 this).2 h
  omega

theorem rndG_add (minus same up : Bool) {m n d pa pb : Nat} (h : Al m n d) (hd : pa = pb + d) :
    rndG minus (addN same m n d) (moreN n d) ((pa : Int) - 1074 - 64) up =
      rndR up (if minus then -((if same then m * 2 ^ pa + n * 2 ^ pb else m * 2 ^ pa - n * 2 ^ pb : Nat) : Int) else ((if same then m * 2 ^ pa + n * 2 ^ pb else m * 2 ^ pa - n * 2 ^ pb : Nat) : Int)) 1 := by
  obtain ⟨Q, W⟩ : ∃ Q, (18446744073709551616 : Nat) = Q := ⟨_, rfl⟩
  have hQ : Q = 2 ^ 64 := by rw [← W]
  have hQ0 : 0 < Q := by rw [hQ]; exact pow_pos' 64
  obtain ⟨h1, h2, h3, h4⟩ := h
  -- all by 2^d: with G = m 2^64 2^d, s 2^d + r = n 2^64
  obtain ⟨s, hs⟩ : ∃ s, smallN n d = s := ⟨_, rfl⟩
  obtain ⟨r, hr⟩ : ∃ r, n * 18446744073709551616 % 2 ^ d = r := ⟨_, rfl⟩
  have hdm : s * 2 ^ d + r = n * Q := by
    have := Nat.div_add_mod (n * 18446744073709551616) (2 ^ d)
    rw [hr] at this
    unfold smallN at hs
    rw [hs, Nat.mul_comm] at this
    rw [← W]; exact this
  have hrl : r < 2 ^ d := by rw [← hr]; exact Nat.mod_lt _ (pow_pos' d)
  have hmore : moreN n d = true ↔ r ≠ 0 := by unfold moreN; rw [hr]; simp
  -- n 2^64 ≤ m 2^64 2^d
  have hle : n ≤ m * 2 ^ d := by
    by_cases c : d = 0
    · subst c; simpa using h3 rfl
    · have := h4 c
      have h5 : 2 ≤ 2 ^ d := by
        have := Nat.pow_le_pow_right (show 0 < 2 by omega) (show 1 ≤ d by omega)
        simpa using this
      have := Nat.mul_le_mul this h5
      omega
  have hsle : s ≤ m * Q := by
    have : s * 2 ^ d ≤ (m * Q) * 2 ^ d := by
      rw [Nat.mul_assoc, Nat.mul_comm Q, ← Nat.mul_assoc]
      have := Nat.mul_le_mul_right Q hle
      omega
    exact Nat.le_of_mul_le_mul_right this (pow_pos' d)
  have hslt : r ≠ 0 → s + 1 ≤ m * Q := by
    intro hr0
    have : s * 2 ^ d < (m * Q) * 2 ^ d := by
      rw [Nat.mul_assoc, Nat.mul_comm Q, ← Nat.mul_assoc]
      have := Nat.mul_le_mul_right Q hle
      omega
    exact Nat.lt_of_mul_lt_mul_right this
  -- the value, by 2^64
  obtain ⟨V, hV⟩ : ∃ V, (if same then m * 2 ^ pa + n * 2 ^ pb else m * 2 ^ pa - n * 2 ^ pb : Nat) = V := ⟨_, rfl⟩
  obtain ⟨N, hN⟩ : ∃ N, addN same m n d = N := ⟨_, rfl⟩
  rw [hV, hN]
  -- N 2^pa <= V 2^64 < (N + 1) 2^pa
  have key : ∃ t, V * Q = N * 2 ^ pa + t * 2 ^ pb ∧ t < 2 ^ d ∧ (moreN n d = true ↔ t ≠ 0) := by
    subst hd
    rw [← hV, ← hN]
    unfold addN
    rw [hs]
    have e1 : ∀ x : Nat, x * 2 ^ (pb + d) = x * 2 ^ d * 2 ^ pb := fun x => by rw [Nat.pow_add]; ac_rfl
    cases same with
    | true =>
      refine ⟨r, ?_, hrl, hmore⟩
      simp only [if_true, W]
      rw [e1, e1, ← Nat.add_mul, ← Nat.add_mul, Nat.mul_right_comm]
      refine congrArg (fun z => z * 2 ^ pb) ?_
      rw [Nat.add_mul, Nat.add_mul, ← hdm]
      have : m * 2 ^ d * Q = m * Q * 2 ^ d := by ac_rfl
      omega
    | false =>
      simp only [Bool.false_eq_true, if_false, W]
      have hsub : m * 2 ^ (pb + d) - n * 2 ^ pb = (m * 2 ^ d - n) * 2 ^ pb := by rw [e1, Nat.sub_mul]
      have h6 : (m * 2 ^ d - n) * Q = (m * Q - s) * 2 ^ d - r := by
        rw [Nat.sub_mul, Nat.sub_mul, ← hdm]
        have : m * 2 ^ d * Q = m * Q * 2 ^ d := by ac_rfl
        omega
      rw [hsub]
      by_cases hr0 : r = 0
      · have hm0 : moreN n d = false := by rw [← Bool.not_eq_true, hmore]; simpa using hr0
        rw [hm0]
        refine ⟨0, ?_, pow_pos' d, by simp⟩
        simp only [Bool.false_eq_true, if_false, Nat.sub_zero, Nat.zero_mul, Nat.add_zero]
        rw [e1, Nat.mul_right_comm, h6, hr0, Nat.sub_zero]
      · have hm1 : moreN n d = true := hmore.2 hr0
        rw [hm1]
        refine ⟨2 ^ d - r, ?_, by omega, by simp; omega⟩
        simp only [if_true]
        rw [e1, Nat.mul_right_comm, h6, ← Nat.add_mul]
        refine congrArg (fun z => z * 2 ^ pb) ?_
        have h7 := hslt hr0
        obtain ⟨q, hq⟩ : ∃ q, m * Q - s = q + 1 := ⟨m * Q - s - 1, by omega⟩
        rw [hq, Nat.add_sub_cancel, Nat.add_mul]; omega
  obtain ⟨t, k1, k2, k3⟩ := key
  have kt : t * 2 ^ pb < 2 ^ pa := by
    rw [hd, Nat.pow_add, Nat.mul_comm (2 ^ pb)]
    exact Nat.mul_lt_mul_of_pos_right k2 (pow_pos' pb)
  have kt0 : t ≠ 0 → 0 < t * 2 ^ pb := fun h => Nat.mul_pos (by omega) (pow_pos' pb)
  -- scale
  have hE : ∃ p q : Nat, ((pa : Int) - 1074 - 64 + 1074).toNat = p ∧ (-((pa : Int) - 1074 - 64 + 1074)).toNat = q ∧ p + 64 = pa + q := ⟨_, _, rfl, rfl, by omega⟩
  obtain ⟨p, q, hp, hq, hpq⟩ := hE
  have hscale : ∀ x y : Nat, x * 2 ^ p ≤ y * 2 ^ q ↔ x * 2 ^ pa ≤ y * Q := by
    intro x y
    have e : x * 2 ^ p * Q = x * 2 ^ pa * 2 ^ q := by rw [hQ, Nat.mul_assoc, ← Nat.pow_add, hpq, Nat.pow_add, ← Nat.mul_assoc]
    have e2 : y * 2 ^ q * Q = y * Q * 2 ^ q := by ac_rfl
    constructor
    · intro h
      have := Nat.mul_le_mul_right Q h
      rw [e, e2] at this
      exact Nat.le_of_mul_le_mul_right this (pow_pos' q)
    · intro h
      have := Nat.mul_le_mul_right (2 ^ q) h
      rw [← e, ← e2] at this
      exact Nat.le_of_mul_le_mul_right this hQ0
  refine rndG_eq_rndR (by decide) ?_ ?_ ?_ ?_
  · rw [hp, hq, Nat.mul_one]; exact (hscale N V).2 (by omega)
  · rw [hp, hq, Nat.mul_one]
    have h5 : ¬ ((N + 1) * 2 ^ p ≤ V * 2 ^ q) := by
      rw [hscale, Nat.add_mul]; omega
    omega
  · rw [hp, hq, Nat.mul_one, k3]
    have h5 := hscale N V
    have h6 : V * 2 ^ q ≤ N * 2 ^ p ↔ V * Q ≤ N * 2 ^ pa := by
      have e : N * 2 ^ p * Q = N * 2 ^ pa * 2 ^ q := by rw [hQ, Nat.mul_assoc, ← Nat.pow_add, hpq, Nat.pow_add, ← Nat.mul_assoc]
      have e2 : V * 2 ^ q * Q = V * Q * 2 ^ q := by ac_rfl
      constructor
      · intro h
        have := Nat.mul_le_mul_right Q h
        rw [e, e2] at this
        exact Nat.le_of_mul_le_mul_right this (pow_pos' q)
      · intro h
        have := Nat.mul_le_mul_right (2 ^ q) h
        rw [← e, ← e2] at this
        exact Nat.le_of_mul_le_mul_right this hQ0
    constructor
    · intro h0 he
      have := kt0 h0
      have := h6.1 (Nat.le_of_eq he)
      omega
    · intro h0 he
      subst he
      rw [Nat.zero_mul, Nat.add_zero] at k1
      exact h0 (Nat.le_antisymm (h6.2 (Nat.le_of_eq k1)) (h5.2 (Nat.le_of_eq k1.symm)))
  · intro hm1
    have hr0 := hmore.1 hm1
    -- d > 64
    have hd64 : 64 < d := by
      rcases Nat.lt_or_ge 64 d with h | h
      · exact h
      · exfalso
        apply hr0
        rw [← hr, W, hQ]
        exact Nat.mod_eq_zero_of_dvd (Nat.dvd_trans (Nat.pow_dvd_pow 2 h) (Nat.dvd_mul_left _ _))
    have hm52 := h4 (by omega)
    have p53 : (2:Nat) ^ 53 = 9007199254740992 := by decide
    have p52 : (2:Nat) ^ 52 = 4503599627370496 := by decide
    have hs52 : s < 2 ^ 53 := by
      have : s * 2 ^ d < 2 ^ 53 * 2 ^ d := by
        have a1 : n * Q < 2 ^ 53 * Q := Nat.mul_lt_mul_of_pos_right (by omega) hQ0
        have a2 : (2:Nat) ^ 53 * Q ≤ 2 ^ 53 * 2 ^ d := by rw [hQ]; exact Nat.mul_le_mul_left _ (Nat.pow_le_pow_right (by omega) (by omega))
        omega
      exact Nat.lt_of_mul_lt_mul_right this
    have : 2 ^ 115 ≤ N := by
      rw [← hN]
      unfold addN
      rw [hs, W]
      have a1 : (2:Nat) ^ 52 * Q ≤ m * Q := Nat.mul_le_mul_right _ (by omega)
      have a2 : (2:Nat) ^ 52 * Q = 2 * 2 ^ 115 := by rw [hQ]
      have a3 : (2:Nat) ^ 53 + 1 ≤ 2 ^ 115 := by decide
      cases same
      · simp only [Bool.false_eq_true, if_false]
        split <;> omega
      · simp only [if_true]; omega
    have := blen_ge this
    omega

/-- the greater one first -/
def Fst (a b : F) : Prop := ex b < ex a ∨ (ex a = ex b ∧ mn b ≤ mn a)
theorem al_of {a b : F} (h : Fst a b) : Al (mn a) (mn b) (ex a - ex b) := by
  unfold Fst at h
  refine ⟨mn_lt a, mn_lt b, fun hd => by omega, fun hd => ?_⟩
  have := mn_norm a
  omega
theorem rndG_dAdd {a b : F} (up : Bool) (h : Fst a b) :
    rndG (sg a) (addN (sg a == sg b) (mn a) (mn b) (ex a - ex b)) (moreN (mn b) (ex a - ex b)) ((ex a : Int) - 1074 - 64) up = dAdd up a b := by
  have hle : ex b ≤ ex a := by unfold Fst at h; omega
  rw [rndG_add (sg a) (sg a == sg b) up (al_of h) (show ex a = ex b + (ex a - ex b) by omega)]
  unfold dAdd
  congr 1
  have hz : mn b * 2 ^ ex b ≤ mn a * 2 ^ ex a := by
    rcases h with h | ⟨h, h2⟩
    · have h3 := mn_norm a
      have h4 := mn_lt b
      have h5 : 2 ^ (ex b + 1) ≤ 2 ^ ex a := Nat.pow_le_pow_right (by omega) (by omega)
      rw [Nat.pow_succ] at h5
      have h6 : mn a * (2 ^ ex b * 2) ≤ mn a * 2 ^ ex a := Nat.mul_le_mul_left _ h5
      have h7 : mn b * 2 ^ ex b ≤ mn a * 2 * 2 ^ ex b := Nat.mul_le_mul_right _ (by omega)
      have h8 : mn a * 2 * 2 ^ ex b = mn a * (2 ^ ex b * 2) := by ac_rfl
      omega
    · rw [h]; exact Nat.mul_le_mul_right _ h2
  rw [z_parts a, z_parts b]
  cases sg a <;> cases sg b <;> simp only [Bool.false_eq_true, if_false, if_true, beq_self_eq_true, show (true == false) = false from rfl, show (false == true) = false from rfl] <;> omega
theorem dAdd_comm (up : Bool) (a b : F) : dAdd up a b = dAdd up b a := by unfold dAdd; rw [Int.add_comm]
theorem dSub_zero (up : Bool) (a b : F) (h : b.k = 0) : dSub up a b = dAdd up a b := by
  have : b.z = 0 := (z_zero b).2 h
  unfold dSub dAdd; rw [this, Int.sub_zero, Int.add_zero]
theorem dSub_neg (up : Bool) (a b : F) : dSub up a b = dAdd up a b.neg := by
  unfold dSub dAdd; rw [F.neg_z, Int.sub_eq_add_neg]

theorem small_le {m n d : Nat} (h : Al m n d) : smallN n d + (if moreN n d then 1 else 0) ≤ m * 18446744073709551616 := by
  have h1 := h.m53
  have h2 := h.n53
  by_cases c : d = 0
  · subst c
    have h3 := h.ord rfl
    have e1 : smallN n 0 = n * 18446744073709551616 := by unfold smallN; rw [Nat.pow_zero, Nat.div_one]
    have e2 : moreN n 0 = false := by unfold moreN; rw [Nat.pow_zero, Nat.mod_one]; rfl
    rw [e1, e2]
    simp only [Bool.false_eq_true, if_false, Nat.add_zero]
    exact Nat.mul_le_mul_right _ h3
  · have h4 := h.nrm c
    have h6 : 2 ≤ 2 ^ d := by
      have := Nat.pow_le_pow_right (show 0 < 2 by omega) (show 1 ≤ d by omega)
      simpa using this
    have h7 : smallN n d * 2 ≤ n * 18446744073709551616 := by
      have : smallN n d * 2 ^ d ≤ n * 18446744073709551616 := Nat.div_mul_le_self _ _
      exact Nat.le_trans (Nat.mul_le_mul_left _ h6) this
    have h8 : n * 18446744073709551616 ≤ (2 * m - 1) * 18446744073709551616 := Nat.mul_le_mul_right _ (by omega)
    have hQ0 : 0 < 18446744073709551616 := by decide
    have h9 : (2 * m - 1) * 18446744073709551616 + 18446744073709551616 = m * 18446744073709551616 * 2 := by
      have : (2 * m - 1) + 1 = m * 2 := by omega
      rw [← Nat.succ_mul, Nat.succ_eq_add_one, this]; ac_rfl
    generalize 18446744073709551616 = Q at *
    have : (if moreN n d then 1 else 0) ≤ 1 := by split <;> omega
    omega
theorem wn_add (same : Bool) {m n d : Nat} (h : Al m n d) : addN same m n d < W128 ∧ m * 18446744073709551616 + smallN n d < W128 := by
  have h5 := small_le h
  have h1 : m * 18446744073709551616 + m * 18446744073709551616 < W128 := by
    have := h.m53
    have hW : W128 = 18446744073709551616 * 18446744073709551616 := by decide
    rw [hW, ← Nat.add_mul]
    exact Nat.mul_lt_mul_of_pos_right (by omega) (by decide)
  generalize W128 = W at *
  unfold addN
  generalize m * 18446744073709551616 = A at *
  generalize smallN n d = s at *
  have h6 : s ≤ A := by split at h5 <;> omega
  refine ⟨?_, by omega⟩
  split
  · omega
  · split <;> omega
end Bu
