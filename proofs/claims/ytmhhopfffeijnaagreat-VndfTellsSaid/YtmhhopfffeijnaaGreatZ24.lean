/- Roots, as the document tells them: what is reckoned comes to the root rounded to its side. Roots: what the model's root is; halves; the side. burnishref01.Sqrt rounds to the side. -/
import Derived.Test.YtmhhopfffeijnaaGreatZ22
import Derived.Test.YtmhhopfffeijnaaGreatZ07
import Derived.Test.YtmhhopfffeijnaaGreatZ13
namespace Bu
set_option linter.all false
open Ieee Rx

theorem rootFrom_B (n : Nat) : ∀ k x : Nat, Datum.rootFrom n k x = rootB n k x
  | 0, _ => rfl
  | k + 1, x => by
    unfold Datum.rootFrom rootB
    simp only [Nat.shiftLeft_eq, Nat.one_mul]
    split
    · exact rootFrom_B n k _
    · exact rootFrom_B n k _
theorem rootFrom_ok {n : Nat} (h : 4 * n < W128) (h1 : 2 ^ 108 ≤ n) : IsRoot n (Datum.rootFrom n (n.log2 / 2 + 1) 0) := by
  rw [rootFrom_B]
  have hb : n < 2 ^ (n.log2 + 1) := Nat.lt_log2_self
  have hl : n.log2 < 126 := by
    apply (Nat.pow_lt_pow_iff_right (a := 2) (by decide)).1
    have := Nat.log2_self_le (n := n) (by omega)
    have e : W128 = 4 * 2 ^ 126 := by decide
    omega
  refine rootB_ok _ 0 ⟨⟨0, by simp, ?_⟩, by simp, ?_⟩
  · rw [Nat.zero_add, show (18446744073709551616 : Nat) = 2 ^ 64 from rfl]
    exact Nat.pow_le_pow_right (by decide) (by omega)
  · rw [Nat.zero_add, ← Nat.pow_add]
    exact Nat.lt_of_lt_of_le hb (Nat.pow_le_pow_right (by decide) (by omega))
@[irreducible] def X18 : Nat := 2 ^ 1018
theorem X18_eq : X18 = 2 ^ 1018 := by unfold X18; rfl
theorem X18_19 : X19 = 2 * X18 := by decide +kernel
def rtQ (n w : Nat) : Nat := 2 * w + (w * w != n).toNat
theorem rtQ_le (n w : Nat) : 2 * w ≤ rtQ n w ∧ rtQ n w ≤ 2 * w + 1 := by
  unfold rtQ
  cases (w * w != n) <;> simp
theorem root_facts {n w r : Nat} (h : IsRoot n w) (hw : 2 * P * 2 ≤ w) :
    (n * (X19 * X19) ≤ nv r * nv r → rtQ n w * X18 ≤ nv r) ∧ (nv r * nv r ≤ n * (X19 * X19) → nv r ≤ rtQ n w * X18) := by
  have e18 := X18_19
  have hX := X19_pos
  have hP := P_pos
  obtain ⟨q1, q2⟩ := rtQ_le n w
  have coarse : 2 * P * X19 ≤ nv r → ∃ v, nv r = v * X19 := fun k => by
    obtain ⟨a, _, eX⟩ := X_pow
    rw [eX] at k ⊢
    exact nv_coarse k
  constructor
  · intro hr
    apply Nat.not_lt.1
    intro c
    have hw2 : w * X19 * (w * X19) ≤ nv r * nv r := by
      have : w * X19 * (w * X19) = w * w * (X19 * X19) := by ac_rfl
      rw [this]
      exact Nat.le_trans (Nat.mul_le_mul_right _ h.le) hr
    have hw3 : w * X19 ≤ nv r := Nat.mul_self_le_mul_self_iff.1 hw2
    obtain ⟨v, hv⟩ := coarse (Nat.le_trans (Nat.mul_le_mul_right _ (by omega)) hw3)
    have hnv : n ≤ v * v := by
      have : v * X19 * (v * X19) = v * v * (X19 * X19) := by ac_rfl
      rw [hv, this] at hr
      exact Nat.le_of_mul_le_mul_right hr (Nat.mul_pos hX hX)
    have c2 : 2 * v < rtQ n w := by
      rw [hv, e18, show v * (2 * X18) = 2 * v * X18 by ac_rfl] at c
      exact Nat.lt_of_mul_lt_mul_right c
    have hvw : v ≤ w := by omega
    have h3 : v * v ≤ w * w := Nat.mul_le_mul hvw hvw
    have hle := h.le
    have e : w * w = n := by omega
    have e2 : rtQ n w = 2 * w := by unfold rtQ; rw [e]; simp
    have e3 : w ≤ v := Nat.mul_self_le_mul_self_iff.1 (show w * w ≤ v * v by omega)
    omega
  · intro hr
    by_cases k : 2 * P * X19 ≤ nv r
    · obtain ⟨v, hv⟩ := coarse k
      have hnv : v * v ≤ n := by
        have : v * X19 * (v * X19) = v * v * (X19 * X19) := by ac_rfl
        rw [hv, this] at hr
        exact Nat.le_of_mul_le_mul_right hr (Nat.mul_pos hX hX)
      have hvw := h.mono.2 hnv
      rw [hv, e18, show v * (2 * X18) = 2 * v * X18 by ac_rfl]
      exact Nat.mul_le_mul_right _ (by omega)
    · have k' : nv r ≤ 2 * P * X19 := by omega
      refine Nat.le_trans k' ?_
      rw [e18, show 2 * P * (2 * X18) = 2 * P * 2 * X18 by ac_rfl]
      exact Nat.mul_le_mul_right _ (by omega)
/-- of a number from 1/4 on, below 1 -/
structure FrQ (f : F) (o m : Nat) : Prop where
  pos : 0 < f.k
  man : Bu.man f.k.natAbs = m
  pl : Bu.pl f.k.natAbs = 1021 - o
  lo : P ≤ m
  hi : m < 2 * P
  o1 : o ≤ 1
theorem FrQ.z {f : F} {o m : Nat} (h : FrQ f o m) : f.z.natAbs = m * (2 ^ (2 - o) * X19) ∧ 0 < f.z := by
  have := z_sign f
  have hp := h.pos
  have hz : f.z ≠ 0 := fun e => by have := (z_zero f).1 e; omega
  refine ⟨?_, by omega⟩
  obtain ⟨a, ha, eX⟩ := X_pow
  rw [z_natAbs, h.man, h.pl, eX]
  have := h.o1
  rw [← Nat.pow_add]
  congr 2; omega
theorem FrQ.n {f : F} {o m : Nat} (h : FrQ f o m) : f.z.natAbs * S = m * 2 ^ (57 - o) * (X19 * X19) := by
  rw [h.z.1, S_X]
  have := h.o1
  rcases (show o = 0 ∨ o = 1 by omega) with e | e
  · subst e
    generalize X19 = x
    simp only [Nat.sub_zero]
    grind
  · subst e
    generalize X19 = x
    grind
theorem sqrt_read {f : F} {o m : Nat} (h : FrQ f o m) : double.sqrt f.b = some (double.word false (min (near (rtQ (m * 2 ^ (57 - o)) (Datum.rootFrom (m * 2 ^ (57 - o)) ((m * 2 ^ (57 - o)).log2 / 2 + 1) 0) * X18) 1) T)) := by
  have hp := h.pos
  have l1 := log2_52 h.lo h.hi
  have hm := h.lo
  have hP := P_pos
  have ho := h.o1
  unfold Format.sqrt
  rw [read_F, h.man, h.pl, decide_eq_false (show ¬ f.k < 0 by omega)]
  have hfb : double.fractionBits = 52 := rfl
  have e0 : ∀ n w : Nat, 2 * w + (w * w != n).toNat = rtQ n w := fun _ _ => rfl
  simp only [Datum.root, if_neg (show ¬ m = 0 by omega), Bool.false_eq_true, if_false, Option.map_some, Format.write, hfb, l1]
  have e1 : 2 * (52 + 2) - 52 + ((-1074 + ((1021 - o : Nat) : Int) - ((2 * (52 + 2) - 52 : Nat) : Int)) % 2).toNat = 57 - o := by omega
  rw [e1, Nat.shiftLeft_eq, e0]
  have e2 : ((-1074 + ((1021 - o : Nat) : Int) - ((57 - o : Nat) : Int)) / 2 - 1 + 1074).toNat = 1018 := by omega
  have e3 : (-((-1074 + ((1021 - o : Nat) : Int) - ((57 - o : Nat) : Int)) / 2 - 1 + 1074)).toNat = 0 := by omega
  have hn : 2 ^ 108 ≤ m * 2 ^ (57 - o) ∧ 4 * (m * 2 ^ (57 - o)) < W128 := by
    have hh := h.hi
    have eP : P = 4503599627370496 := rfl
    have eW : W128 = 340282366920938463463374607431768211456 := rfl
    rcases (show o = 0 ∨ o = 1 by omega) with e | e <;> subst e <;> omega
  have hr := rootFrom_ok hn.2 hn.1
  have q0 : rtQ (m * 2 ^ (57 - o)) (Datum.rootFrom (m * 2 ^ (57 - o)) ((m * 2 ^ (57 - o)).log2 / 2 + 1) 0) ≠ 0 := by
    intro c
    have := (rtQ_le (m * 2 ^ (57 - o)) (Datum.rootFrom (m * 2 ^ (57 - o)) ((m * 2 ^ (57 - o)).log2 / 2 + 1) 0)).1
    have w0 : Datum.rootFrom (m * 2 ^ (57 - o)) ((m * 2 ^ (57 - o)).log2 / 2 + 1) 0 = 0 := by omega
    have := hr.lt
    rw [w0] at this
    omega
  rw [nearest_eq _ _ _ q0, e2, e3, Nat.pow_zero, ← X18_eq]

theorem frQ_n {f : F} {o m : Nat} (h : FrQ f o m) : 324518553658426726783156020576256 ≤ m * 2 ^ (57 - o) ∧ m * 2 ^ (57 - o) < 1298074214633706907132624082305024 := by
  have hh := h.hi
  have hl := h.lo
  have ho := h.o1
  have eP : P = 4503599627370496 := rfl
  rcases (show o = 0 ∨ o = 1 by omega) with e | e <;> subst e <;> omega
theorem rt_bounds {n w : Nat} (hr : IsRoot n w) (h1 : 324518553658426726783156020576256 ≤ n) (h2 : n < 1298074214633706907132624082305024) : 18014398509481984 ≤ w ∧ w < 36028797018963968 := by
  have l := hr.lt
  have g := hr.le
  constructor
  · apply Nat.not_lt.1
    intro c
    have h2 : (w + 1) * (w + 1) ≤ 18014398509481984 * 18014398509481984 := Nat.mul_le_mul (by omega) (by omega)
    omega
  · apply Nat.not_le.1
    intro c
    have h2 := Nat.mul_le_mul c c
    omega
theorem S_18 : S = 72057594037927936 * X18 := by decide +kernel
theorem rt_place {n w : Nat} (w1 : 18014398509481984 ≤ w) (w2 : w < 36028797018963968) : nv rHalf ≤ rtQ n w * X18 ∧ rtQ n w * X18 ≤ nv rOne := by
  obtain ⟨q1, q2⟩ := rtQ_le n w
  have e0 := S_18
  have e1 := rHalf_nv
  have e2 := rOne_nv
  have h1 : 36028797018963968 * X18 ≤ rtQ n w * X18 := Nat.mul_le_mul_right _ (by omega)
  have h2 : rtQ n w * X18 ≤ 72057594037927936 * X18 := Nat.mul_le_mul_right _ (by omega)
  generalize rtQ n w * X18 = q at *
  generalize nv rHalf = a at *
  generalize nv rOne = b at *
  clear q1 q2
  constructor <;> omega
theorem rOne_T : rOne < T := by decide
theorem rHalf_0 : 0 < rHalf := by decide
end Bu
namespace Bu
set_option linter.all false
open Ieee Rx

theorem sqrt_place {f : F} {o m : Nat} (h : FrQ f o m) : ∃ K : Nat, double.sqrt f.b = some (double.word false (min K T)) ∧ K ≤ rOne ∧ rHalf ≤ K ∧ (∀ r, f.z.natAbs * S ≤ nv r * nv r → K ≤ r) ∧ (∀ r, nv r * nv r ≤ f.z.natAbs * S → r ≤ K) := by
  have hs := sqrt_read h
  obtain ⟨n1, n2⟩ := frQ_n h
  have hr := rootFrom_ok (n := m * 2 ^ (57 - o)) (by have : W128 = 340282366920938463463374607431768211456 := rfl; omega) (by omega)
  have en := h.n
  generalize m * 2 ^ (57 - o) = n at *
  generalize Datum.rootFrom n (n.log2 / 2 + 1) 0 = w at *
  obtain ⟨w1, w2⟩ := rt_bounds hr n1 n2
  clear n1 n2
  have facts := fun r => root_facts (r := r) hr (by have eP : P = 4503599627370496 := rfl; omega)
  obtain ⟨p1, p2⟩ := rt_place (n := n) w1 w2
  clear w1 w2
  have k1 : near (rtQ n w * X18) 1 ≤ rOne := near_le Nat.one_pos (by rw [Nat.mul_one]; exact p2)
  have k2 : rHalf ≤ near (rtQ n w * X18) 1 := le_near Nat.one_pos (by rw [Nat.mul_one]; exact p1)
  exact ⟨_, hs, k1, k2, fun r hh => near_le Nat.one_pos (by rw [Nat.mul_one]; rw [en] at hh; exact (facts r).1 hh), fun r hh => le_near Nat.one_pos (by rw [Nat.mul_one]; rw [en] at hh; exact (facts r).2 hh)⟩
theorem word_place {K : Nat} (k1 : K ≤ rOne) : ∃ c : F, double.word false (min K T) = c.b ∧ c.k = K := by
  have kT : K < T := Nat.lt_of_le_of_lt k1 rOne_T
  refine ⟨F.of (K : Int), ?_, F.of_k (by clear k1; omega)⟩
  rw [Nat.min_eq_left (Nat.le_of_lt kT), word_F _ _ kT (fun k => by cases k), if_neg (by decide)]
theorem sqrt_out {f : F} {o m : Nat} (h : FrQ f o m) : ∃ c : F, double.sqrt f.b = some c.b ∧ rHalf ≤ c.k.natAbs ∧ c.k.natAbs ≤ rOne ∧ 0 < c.k ∧ (∀ r, f.z.natAbs * S ≤ nv r * nv r → c.k.natAbs ≤ r) ∧ (∀ r, nv r * nv r ≤ f.z.natAbs * S → r ≤ c.k.natAbs) := by
  obtain ⟨K, h1, h2, h3, h4, h5⟩ := sqrt_place h
  obtain ⟨c, e1, e2⟩ := word_place h2
  have e3 : c.k.natAbs = K := by rw [e2]; exact Int.natAbs_natCast K
  have k0 : 0 < K := Nat.lt_of_lt_of_le rHalf_0 h3
  refine ⟨c, by rw [h1, e1], by rw [e3]; exact h3, by rw [e3]; exact h2, by rw [e2]; exact Int.ofNat_lt.2 k0, by rw [e3]; exact h4, by rw [e3]; exact h5⟩
theorem frQ_0 {f : F} (h : FrP f) (hp : 0 < f.k) : ∃ m, FrQ f 0 m := by
  obtain ⟨m, m1, m2, m3, m4⟩ := h.z
  exact ⟨m, hp, m3, h.man.2, m1, m2, by decide⟩
def hfF (f : F) : F := F.of (f.k - (P : Int))
def twoF : F := toF 4611686018427387904
theorem two_parts : man twoF.k.natAbs = P ∧ pl twoF.k.natAbs = 1023 ∧ ¬ twoF.k < 0 := by decide +kernel
theorem hf_k {f : F} (h : FrP f) (hp : 0 < f.k) : (hfF f).k = f.k - (P : Int) ∧ (hfF f).k.natAbs = 1021 * P + f.k.natAbs % P ∧ 0 < (hfF f).k := by
  have hk := f.hk
  have hP := P_pos
  unfold FrP at h
  have hd := Nat.div_add_mod f.k.natAbs P
  rw [h] at hd
  have eP : P = 4503599627370496 := rfl
  have e : (hfF f).k = f.k - (P : Int) := F.of_k (by omega)
  refine ⟨e, ?_, ?_⟩ <;> rw [e] <;> omega
theorem frQ_1 {f : F} (h : FrP f) (hp : 0 < f.k) : ∃ m, FrQ (hfF f) 1 m ∧ Bu.man f.k.natAbs = m ∧ (hfF f).z.natAbs * 2 = f.z.natAbs := by
  obtain ⟨m, m1, m2, m3, m4⟩ := h.z
  obtain ⟨e1, e2, e3⟩ := hf_k h hp
  have hP := P_pos
  have hr := Nat.mod_lt f.k.natAbs P_pos
  have hm := h.man.1
  have d1 : (1021 * P + f.k.natAbs % P) / P = 1021 := by
    rw [Nat.mul_comm, Nat.mul_add_div hP, Nat.div_eq_of_lt hr]
  have d2 : (1021 * P + f.k.natAbs % P) % P = f.k.natAbs % P := by rw [Nat.mul_comm, Nat.mul_add_mod, Nat.mod_eq_of_lt hr]
  have q : FrQ (hfF f) 1 m := by
    refine ⟨e3, ?_, ?_, m1, m2, by decide⟩
    · rw [e2, man_norm (by omega), d2, ← hm, m3]
    · unfold Bu.pl; rw [e2, d1]
  refine ⟨m, q, m3, ?_⟩
  rw [q.z.1, m4]
  generalize X19 = x
  simp only [show 2 - 1 = 1 from rfl]
  grind
theorem half_div {f : F} (h : FrP f) (hp : 0 < f.k) : double.div f.b twoF.b = some (hfF f).b := by
  obtain ⟨m, q, hm, hz⟩ := frQ_1 h hp
  have m1 := q.lo
  have m2 := q.hi
  have hP := P_pos
  obtain ⟨t1, t2, t3⟩ := two_parts
  have l1 := log2_52 m1 m2
  have l2 : P.log2 = 52 := log2_52 (Nat.le_refl _) (by omega)
  have pf := h.man.2
  unfold Format.div
  rw [read_F, read_F, hm, pf, t1, t2, decide_eq_false (show ¬ f.k < 0 by omega), decide_eq_false t3]
  simp only [Datum.quotient, if_neg (show ¬ P = 0 by omega), Option.map_some, Format.write]
  have hfb : double.fractionBits = 52 := rfl
  rw [hfb, l1, l2, show 52 + 2 + 52 - 52 = 54 from rfl]
  have e4 : m <<< 54 = m * 4 * P := by rw [Nat.shiftLeft_eq, show P = 4503599627370496 from rfl]; omega
  have e5 : 2 * (m <<< 54 / P) + (m <<< 54 % P != 0).toNat = m * 8 := by
    rw [e4, Nat.mul_div_cancel _ hP, Nat.mul_mod_left]
    show 2 * (m * 4) + 0 = m * 8
    omega
  rw [e5, nearest_eq _ _ _ (by omega)]
  have e6 : (-1074 + ((1021 : Nat) : Int) - (-1074 + ((1023 : Nat) : Int)) - ((54 : Nat) : Int) - 1 + 1074).toNat = 1017 := by decide
  have e7 : (-(-1074 + ((1021 : Nat) : Int) - (-1074 + ((1023 : Nat) : Int)) - ((54 : Nat) : Int) - 1 + 1074)).toNat = 0 := by decide
  rw [e6, e7, Nat.pow_zero]
  obtain ⟨e1, e2, e3⟩ := hf_k h hp
  have hT := (hfF f).hk
  have ex : near (m * 8 * 2 ^ 1017) 1 = (hfF f).k.natAbs := near_exact (by decide) (by
    rw [Nat.mul_one, ← z_natAbs', q.z.1]
    obtain ⟨a, ha, eX⟩ := X_pow
    obtain ⟨b, hb⟩ : ∃ b : Nat, b = 1017 := ⟨_, rfl⟩
    rw [← hb, eX, show a = b + 2 by omega, Nat.pow_add]
    simp only [show 2 - 1 = 1 from rfl]
    generalize 2 ^ b = x
    grind)
  rw [ex, Nat.min_eq_left (by omega)]
  have ew := word_F false (hfF f).k.natAbs (by omega) (fun k => by cases k)
  show some (double.word false (hfF f).k.natAbs) = _
  rw [ew, if_neg (by decide), show (((hfF f).k.natAbs : Nat) : Int) = (hfF f).k by omega, F.of_self]
theorem q_nn {c : F} (h : 0 ≤ c.k) : 0 ≤ c.q := by rw [← q_zero]; exact q_le.2 h
theorem q_sq (a c : F) : c.q * c.q ≤ a.q ↔ c.z * c.z ≤ a.z * (S : Int) := by
  have hS := S_gt
  have h1 := F.q_mul a
  have h2 := F.q_mul c
  have e1 : ((c.z * c.z : Int) : Rat) = c.q * c.q * ((S : Rat) * (S : Rat)) := by rw [Rat.intCast_mul, ← h2]; grind
  have e2 : ((a.z * (S : Int) : Int) : Rat) = a.q * ((S : Rat) * (S : Rat)) := by rw [Rat.intCast_mul, ← h1, Rat.intCast_natCast]; grind
  have hSS := Rat.mul_pos hS hS
  rw [← Rat.intCast_le_intCast, e1, e2]
  exact ⟨fun h => Rat.mul_le_mul_of_nonneg_right h (Rat.le_of_lt hSS), fun h => Rat.le_of_mul_le_mul_right h hSS⟩
theorem q_sq' (a c : F) : a.q ≤ c.q * c.q ↔ a.z * (S : Int) ≤ c.z * c.z := by
  have hS := S_gt
  have h1 := F.q_mul a
  have h2 := F.q_mul c
  have e1 : ((c.z * c.z : Int) : Rat) = c.q * c.q * ((S : Rat) * (S : Rat)) := by rw [Rat.intCast_mul, ← h2]; grind
  have e2 : ((a.z * (S : Int) : Int) : Rat) = a.q * ((S : Rat) * (S : Rat)) := by rw [Rat.intCast_mul, ← h1, Rat.intCast_natCast]; grind
  have hSS := Rat.mul_pos hS hS
  rw [← Rat.intCast_le_intCast, e1, e2]
  exact ⟨fun h => Rat.mul_le_mul_of_nonneg_right h (Rat.le_of_lt hSS), fun h => Rat.le_of_mul_le_mul_right h hSS⟩
theorem nvZ_nn {j : Int} (h : 0 ≤ j) : 0 ≤ nvZ j := by have := nvZ_le_iff.2 h; rw [nvZ_zero] at this; exact this
theorem dn_of {a : F} (ha : 0 < a.k) {j : Int} (h0 : 0 ≤ j) (hT : j < (T : Int)) (h1 : nvZ j * nvZ j ≤ a.z * (S : Int)) (h2 : a.z * (S : Int) < nvZ (j + 1) * nvZ (j + 1)) : dSqrt false a = (F.of j, 0) := by
  obtain ⟨r, e, d⟩ := (sqrt_gen ha).1
  have hj : (F.of j).k = j := F.of_k (by omega)
  have hz : (F.of j).z = nvZ j := by show nvZ (F.of j).k = _; rw [hj]
  rw [e]
  have g1 : j ≤ r.k := by
    have := q_le.1 (d.top (F.of j) (q_nn (by omega)) ((q_sq a _).2 (by rw [hz]; exact h1)))
    omega
  have g2 : r.k ≤ j := by
    apply Int.not_lt.1
    intro c
    have l1 : nvZ (j + 1) ≤ r.z := nvZ_le_iff.2 (by omega)
    have l2 := nvZ_nn (show 0 ≤ j + 1 by omega)
    have l3 := (q_sq a r).1 d.le
    have l4 := Int.mul_le_mul l1 l1 l2 (Int.le_trans l2 l1)
    omega
  rw [F.ext' (a := r) (b := F.of j) (by omega)]
theorem up_of {a : F} (ha : 0 < a.k) {j : Int} (h0 : 1 ≤ j) (hT : j < (T : Int)) (h1 : nvZ (j - 1) * nvZ (j - 1) < a.z * (S : Int)) (h2 : a.z * (S : Int) ≤ nvZ j * nvZ j) : dSqrt true a = (F.of j, 0) := by
  obtain ⟨r, e, d⟩ := (sqrt_gen ha).2
  have hj : (F.of j).k = j := F.of_k (by omega)
  have hz : (F.of j).z = nvZ j := by show nvZ (F.of j).k = _; rw [hj]
  have rk : F.zero.k ≤ r.k := q_le.1 (by rw [q_zero]; exact d.nn)
  rw [show F.zero.k = 0 from rfl] at rk
  rw [e]
  have g1 : r.k ≤ j := by
    have := q_le.1 (d.bot (F.of j) (q_nn (by omega)) ((q_sq' a _).2 (by rw [hz]; exact h2)))
    omega
  have g2 : j ≤ r.k := by
    apply Int.not_lt.1
    intro c
    have l1 : r.z ≤ nvZ (j - 1) := nvZ_le_iff.2 (by omega)
    have l2 : 0 ≤ r.z := nvZ_nn rk
    have l3 := (q_sq' a r).1 d.ge
    have l4 := Int.mul_le_mul l1 l1 l2 (Int.le_trans l2 l1)
    omega
  rw [F.ext' (a := r) (b := F.of j) (by omega)]
theorem nv_sh {r r' : Nat} {h : Int} (hr : P ≤ r) (hr' : P ≤ r') (e : (r' : Int) = r + h * (P : Int)) : nv r' * 2 ^ (-h).toNat = nv r * 2 ^ h.toNat := by
  have hP := P_pos
  have key : ∀ {r r' : Nat} {i : Nat}, P ≤ r → r' = r + i * P → nv r' = nv r * 2 ^ i := fun {r r' i} hr e => by
    have h1 : 1 ≤ r / P := (Nat.le_div_iff_mul_le hP).2 (by omega)
    rw [nv_norm hr, nv_norm (r := r') (by rw [e]; exact Nat.le_trans hr (Nat.le_add_right _ _)), e, Nat.add_mul_mod_self_right, Nat.add_mul_div_right _ _ hP, Nat.mul_assoc, ← Nat.pow_add]
    congr 2; omega
  rcases (show 0 ≤ h ∨ h < 0 by omega) with c | c
  · obtain ⟨i, rfl⟩ := Int.eq_ofNat_of_zero_le c
    rw [show (-(i : Int)).toNat = 0 by omega, show ((i : Int)).toNat = i by omega, Nat.pow_zero, Nat.mul_one]
    refine key hr ?_
    rw [← Int.natCast_mul] at e
    omega
  · obtain ⟨i, hi⟩ : ∃ i : Nat, h = -(i : Int) := ⟨(-h).toNat, by omega⟩
    subst hi
    rw [show (-(-(i : Int))).toNat = i by omega, show (-(i : Int)).toNat = 0 by omega, Nat.pow_zero, Nat.mul_one]
    refine (key hr' ?_).symm
    rw [Int.neg_mul, ← Int.natCast_mul] at e
    omega
theorem sq_sh {x x' f a u v : Nat} (hu : 0 < u) (hv : 0 < v) (h1 : x' * u = x * v) (h2 : a * (u * u) = f * (v * v)) : (x' * x' ≤ a * S ↔ x * x ≤ f * S) ∧ (a * S ≤ x' * x' ↔ f * S ≤ x * x) := by
  have e1 : x' * x' * (u * u) = x * x * (v * v) := by
    rw [show x' * x' * (u * u) = (x' * u) * (x' * u) by ac_rfl, h1]; ac_rfl
  have e2 : a * S * (u * u) = f * S * (v * v) := by
    rw [Nat.mul_right_comm, h2]; ac_rfl
  have pu := Nat.mul_pos hu hu
  have pv := Nat.mul_pos hv hv
  constructor
  · rw [← Nat.mul_le_mul_right_iff pu, e1, e2, Nat.mul_le_mul_right_iff pv]
  · rw [← Nat.mul_le_mul_right_iff pu, e1, e2, Nat.mul_le_mul_right_iff pv]
theorem S_537 : ∃ i : Nat, i = 537 ∧ S = 2 ^ i * 2 ^ i := by
  obtain ⟨i, hi⟩ : ∃ i : Nat, i = 537 := ⟨_, rfl⟩
  exact ⟨i, hi, by rw [S_eq, ← Nat.pow_add]; congr 1; omega⟩
theorem half_537 : 2 * P * 2 ^ 537 ≤ nv rHalf := by decide +kernel
theorem two_pow_sq (n : Nat) : 2 ^ (2 * n) = 2 ^ n * 2 ^ n := by rw [← Nat.pow_add]; congr 1; omega
structure RootR (L : F → Int → Nat) (f : F) (h : Int) (r : Bool → F × Int) (c D d : F) : Prop where
  s : double.sqrt f.b = some c.b
  l : L c h = D.b
  dn : D.k ≠ 0
  b : L D (-h) = c.b
  cn : c.k ≠ 0
  m : double.fma c.neg.b c.b f.b = some d.b
  r : ∀ up, sideF D (decide (0 < d.k)) (decide (d.k < 0)) up = r up
theorem Sc_abs {x y : F} {n : Int} (h : Sc x y n) : y.z.natAbs * 2 ^ (-n).toNat = x.z.natAbs * 2 ^ n.toNat := by
  have := congrArg Int.natAbs h
  rw [mul_abs, mul_abs] at this
  exact this
theorem root_fin {f : F} {o m : Nat} (h : FrQ f o m) {c : F} (c1 : rHalf ≤ c.k.natAbs) (c2 : c.k.natAbs ≤ rOne) (c0 : 0 < c.k) : ∃ d : F, double.fma c.neg.b c.b f.b = some d.b ∧ (0 < d.k ↔ ¬ f.z.natAbs * S ≤ c.z.natAbs * c.z.natAbs) ∧ (d.k < 0 ↔ ¬ c.z.natAbs * c.z.natAbs ≤ f.z.natAbs * S) := by
  have hS := S_pos
  have hp := h.pos
  have hz := h.z.2
  have cz := z_natAbs' c
  have sc := z_sign c
  have zn := nvZ_nn (show 0 ≤ c.k by omega)
  have cz0 : 0 ≤ c.z := zn
  have l1 := nv_le c1
  have l2 := nv_le c2
  rw [rOne_nv, ← cz] at l2
  have hco := half_537
  obtain ⟨i, hi, eS⟩ := S_537
  rw [← hi] at hco
  obtain ⟨u, eu⟩ := rep_coarse (rep_F c) (i := i) (by rw [cz]; exact Nat.le_trans hco l1)
  have esq : c.z * c.z = u * u * (S : Int) := by
    rw [eS, eu, Int.natCast_mul]
    generalize ((2 ^ i : Nat) : Int) = x
    grind
  have nsq : ((c.z.natAbs * c.z.natAbs : Nat) : Int) = c.z * c.z := by rw [Int.natCast_mul]; rw [show ((c.z.natAbs : Nat) : Int) = c.z by omega]
  have nf : ((f.z.natAbs * S : Nat) : Int) = f.z * (S : Int) := by rw [Int.natCast_mul]; rw [show ((f.z.natAbs : Nat) : Int) = f.z by omega]
  have hu : u * u ≤ (S : Int) := by
    have h1 : c.z.natAbs * c.z.natAbs ≤ S * S := Nat.mul_le_mul l2 l2
    have h2 := Int.ofNat_le.2 h1
    rw [nsq, esq, Int.natCast_mul] at h2
    exact Int.le_of_mul_le_mul_right h2 (by omega)
  have hu0 : 0 ≤ u * u := by
    rcases (show 0 ≤ u ∨ u < 0 by omega) with g | g
    · exact Int.mul_nonneg g g
    · exact Int.le_of_lt (Int.mul_pos_of_neg_of_neg g g)
  have hf : f.z.natAbs ≤ S := by
    have hfk : f.k.natAbs ≤ rOne := by
      have e := h.pl
      have ho := h.o1
      unfold Bu.pl at e
      have hP := P_pos
      have hd := Nat.div_add_mod f.k.natAbs P
      have hm := Nat.mod_lt f.k.natAbs hP
      have eP : P = 4503599627370496 := rfl
      have eO : rOne = 4607182418800017408 := rfl
      have e3 : f.k.natAbs / P ≤ 1022 := by omega
      have := Nat.mul_le_mul_left P e3
      omega
    rw [z_natAbs', ← rOne_nv]; exact nv_le hfk
  obtain ⟨d, d1, d2, d3⟩ := wrd_mult (n := f.z - u * u) (g := F4) (by rw [F4_z]; omega) (by rw [F4_z]; omega)
  rw [Int.sub_mul, ← esq] at d1
  have hS' : (0 : Int) < (S : Int) := by omega
  refine ⟨d, ?_, ?_, ?_⟩
  · rw [← negFloat_F c (by omega), fma_neg (x := f) (y := c) (z := c) (by omega) (by omega), d1]
  · rw [d2, Nat.not_le, ← Int.ofNat_lt, nsq, nf, esq]
    have := @Int.mul_lt_mul_right (S : Int) (u * u) f.z hS'
    omega
  · rw [d3, Nat.not_le, ← Int.ofNat_lt, nsq, nf, esq]
    have := @Int.mul_lt_mul_right (S : Int) f.z (u * u) hS'
    omega
theorem root_side {a f : F} {o m : Nat} {h : Int} (ha : 0 < a.k) (q : FrQ f o m) (hs : Sc f a (2 * h)) (b1 : -600 ≤ h) (b2 : h ≤ 600) : ∃ c D d : F, RootR ldW f h (fun up => dSqrt up a) c D d := by
  obtain ⟨c, e, c1, c2, c0, u1, u2⟩ := sqrt_out q
  obtain ⟨d, d1, d2, d3⟩ := root_fin q c1 c2 c0
  have eP : P = 4503599627370496 := rfl
  have eH : rHalf = 4602678819172646912 := rfl
  have eO : rOne = 4607182418800017408 := rfl
  have hT := T_num
  obtain ⟨j, hj⟩ : ∃ j : Int, j = c.k + h * (P : Int) := ⟨_, rfl⟩
  have eP' : (P : Int) = 4503599627370496 := rfl
  rw [eP'] at hj
  have j1 : 1000000000000000000 ≤ j ∧ j + 1 < (T : Int) := by omega
  have Dk : (F.of j).k = j := F.of_k (by omega)
  -- beside c, beside D
  have sh : ∀ i : Int, -1 ≤ i → i ≤ 1 → nv (j + i).natAbs * 2 ^ (-h).toNat = nv (c.k + i).natAbs * 2 ^ h.toNat := fun i i1 i2 => nv_sh (by omega) (by omega) (by rw [eP']; omega)
  have ha2 := Sc_abs hs
  rw [show (-(2 * h)).toNat = 2 * (-h).toNat by omega, show (2 * h).toNat = 2 * h.toNat by omega, two_pow_sq, two_pow_sq] at ha2
  have cmp : ∀ i : Int, -1 ≤ i → i ≤ 1 → _ := fun i i1 i2 => sq_sh (Nat.two_pow_pos _) (Nat.two_pow_pos _) (sh i i1 i2) ha2
  have za : ((a.z.natAbs : Nat) : Int) = a.z := by have := z_sign a; have := nvZ_nn (show 0 ≤ a.k by omega); have h3 : 0 ≤ a.z := this; omega
  have up : ∀ i : Int, 0 ≤ i → nvZ i * nvZ i = ((nv i.natAbs * nv i.natAbs : Nat) : Int) := fun i h0 => by
    obtain ⟨n, rfl⟩ := Int.eq_ofNat_of_zero_le h0
    rw [nvZ_natCast, Int.natCast_mul, Int.natAbs_natCast]
  have eaS : a.z * (S : Int) = ((a.z.natAbs * S : Nat) : Int) := by rw [Int.natCast_mul, za]
  have cz : c.z.natAbs = nv c.k.natAbs := z_natAbs' c
  have hgt : ¬ nv (c.k + 1).natAbs * nv (c.k + 1).natAbs ≤ f.z.natAbs * S := fun g => by have := u2 _ g; omega
  have hlt : ¬ f.z.natAbs * S ≤ nv (c.k + -1).natAbs * nv (c.k + -1).natAbs := fun g => by have := u1 _ g; omega
  have k1 := cmp 1 (by omega) (by omega)
  have k0 := cmp 0 (by omega) (by omega)
  have km := cmp (-1) (by omega) (by omega)
  rw [Int.add_zero, Int.add_zero] at k0
  rw [cz] at d2 d3
  rw [← k0.2] at d2
  rw [← k0.1] at d3
  rw [← k1.1] at hgt
  rw [← km.2] at hlt
  have D0 : F.of j = F.of j := rfl
  have hsc : Sc c (F.of j) h := by
    refine sc_mk ?_ (by rw [Dk]; omega)
    have s0 := sh 0 (by omega) (by omega)
    rw [Int.add_zero, Int.add_zero] at s0
    rw [z_natAbs', z_natAbs', Dk, s0]
  have hsb : Sc (F.of j) c (-h) := by
    unfold Sc at hsc ⊢
    rw [Int.neg_neg]; exact hsc.symm
  refine ⟨c, F.of j, d, e, ld_exact hsc, by rw [Dk]; omega, ld_exact hsb, by omega, d1, fun u => ?_⟩
  cases u
  · unfold sideF
    simp only [cond_false]
    cases g : decide (d.k < 0)
    · have g' := of_decide_eq_false g
      rw [d3, Classical.not_not] at g'
      rw [cond_false]
      refine (dn_of ha (by omega) (by omega) ?_ ?_).symm
      · rw [up _ (by omega), eaS]; exact Int.ofNat_le.2 g'
      · rw [up _ (by omega), eaS]; exact Int.ofNat_lt.2 (Nat.not_le.1 hgt)
    · have g' := of_decide_eq_true g
      rw [d3] at g'
      rw [cond_true]
      unfold dnN
      rw [Dk, if_pos (by omega)]
      refine (dn_of ha (by omega) (by omega) ?_ ?_).symm
      · rw [up _ (by omega), eaS]; exact Int.ofNat_le.2 (Nat.le_of_lt (Nat.not_le.1 hlt))
      · rw [show j - 1 + 1 = j by omega, up _ (by omega), eaS]; exact Int.ofNat_lt.2 (Nat.not_le.1 g')
  · unfold sideF
    simp only [cond_true]
    cases g : decide (0 < d.k)
    · have g' := of_decide_eq_false g
      rw [d2, Classical.not_not] at g'
      rw [cond_false]
      refine (up_of ha (by omega) (by omega) ?_ ?_).symm
      · rw [up _ (by omega), eaS]; exact Int.ofNat_lt.2 (Nat.not_le.1 hlt)
      · rw [up _ (by omega), eaS]; exact Int.ofNat_le.2 g'
    · have g' := of_decide_eq_true g
      rw [d2] at g'
      rw [cond_true]
      unfold upN
      rw [Dk, if_pos (by omega)]
      refine (up_of ha (by omega) (by omega) ?_ ?_).symm
      · rw [show j + 1 - 1 = j by omega, up _ (by omega), eaS]; exact Int.ofNat_lt.2 (Nat.not_le.1 g')
      · rw [up _ (by omega), eaS]; exact Int.ofNat_le.2 (Nat.le_of_lt (Nat.not_le.1 hgt))
end Bu
namespace Go.Proofs.YtmhhopfffeijnaaGreat
set_option linter.all false
open Go.RowKit Bu Rx

def rtN (x : F) : F := toF ((Ieee.double.sqrt x.b).getD 0)
def sqEnd (a : F) (o : Option Nat) (t : Obs) : Obs := (o.isSome, true) :: (rightB (o.getD 0), true) :: t
def sqTl (a : F) (e : Int) (d : Bool) : Obs := [(!(e.tmod 2 == 0), d), (!decide (a.k = 0), true), (decide (a.k = (toF 0).k), false), (decide (a.k < (toF 0).k), false)]
def hlF (f : F) : F := dN f (toF 4611686018427387904)
def hlO (f : F) (t : Obs) : Obs := ((Ieee.double.div f.b (toF 4611686018427387904).b).isSome, true) :: (rightB ((Ieee.double.div f.b (toF 4611686018427387904).b).getD 0), true) :: t
theorem rqRun1 (K : Kf) (a : F) (up : Bool) : valR ((run Tryz.prog EH (OMu K) 80).1 122 [.fl a, .b up] [] (some [false, false, false, true])) =
    some (sdD (toF (K.L (rtN (K.fr a)) (wrp ((K.ex a).tdiv 2)))) (fW (toF (K.L (toF (K.L (rtN (K.fr a)) (wrp ((K.ex a).tdiv 2)))) (-(wrp ((K.ex a).tdiv 2))))).neg.b (toF (K.L (toF (K.L (rtN (K.fr a)) (wrp ((K.ex a).tdiv 2)))) (-(wrp ((K.ex a).tdiv 2))))).b (K.fr a).b) up, some [],
      mu1 K (rtN (K.fr a)) (wrp ((K.ex a).tdiv 2)) (toF (K.L (rtN (K.fr a)) (wrp ((K.ex a).tdiv 2)))) (toF (K.L (toF (K.L (rtN (K.fr a)) (wrp ((K.ex a).tdiv 2)))) (-(wrp ((K.ex a).tdiv 2))))).neg.b (toF (K.L (toF (K.L (rtN (K.fr a)) (wrp ((K.ex a).tdiv 2)))) (-(wrp ((K.ex a).tdiv 2))))).b (K.fr a).b (sqEnd a (Ieee.double.sqrt (K.fr a).b) (sqTl a (K.ex a) false))) := by kernel_rfl
theorem rqRun2 (K : Kf) (a : F) (up : Bool) : valR ((run Tryz.prog EH (OMu K) 80).1 122 [.fl a, .b up] [] (some [false, false, true, true])) =
    some (sdD (toF (K.L (rtN (hlF (K.fr a))) (wrp ((wrp (K.ex a + 1)).tdiv 2)))) (fW (toF (K.L (toF (K.L (rtN (hlF (K.fr a))) (wrp ((wrp (K.ex a + 1)).tdiv 2)))) (-(wrp ((wrp (K.ex a + 1)).tdiv 2))))).neg.b (toF (K.L (toF (K.L (rtN (hlF (K.fr a))) (wrp ((wrp (K.ex a + 1)).tdiv 2)))) (-(wrp ((wrp (K.ex a + 1)).tdiv 2))))).b (hlF (K.fr a)).b) up, some [],
      mu1 K (rtN (hlF (K.fr a))) (wrp ((wrp (K.ex a + 1)).tdiv 2)) (toF (K.L (rtN (hlF (K.fr a))) (wrp ((wrp (K.ex a + 1)).tdiv 2)))) (toF (K.L (toF (K.L (rtN (hlF (K.fr a))) (wrp ((wrp (K.ex a + 1)).tdiv 2)))) (-(wrp ((wrp (K.ex a + 1)).tdiv 2))))).neg.b (toF (K.L (toF (K.L (rtN (hlF (K.fr a))) (wrp ((wrp (K.ex a + 1)).tdiv 2)))) (-(wrp ((wrp (K.ex a + 1)).tdiv 2))))).b (hlF (K.fr a)).b (sqEnd a (Ieee.double.sqrt (hlF (K.fr a)).b) (hlO (K.fr a) (sqTl a (K.ex a) true)))) := by kernel_rfl
theorem rqRun0 (K : Kf) (a : F) (up : Bool) : valR ((run Tryz.prog EH (OMu K) 80).1 122 [.fl a, .b up] [] (some [true])) = some (.tup [.fl F.zero, .i .i64 12], some [], [(decide (a.k < (toF 0).k), true)]) := by kernel_rfl
theorem rqRun0' (K : Kf) (a : F) (up : Bool) : valR ((run Tryz.prog EH (OMu K) 80).1 122 [.fl a, .b up] [] (some [false, true])) = some (.tup [.fl F.zero, .i .i64 0], some [], [(decide (a.k = (toF 0).k), true), (decide (a.k < (toF 0).k), false)]) := by kernel_rfl
theorem rsqrt_1 {K : Kf} (hO : OracleOk Tryz.prog (OMu K)) {a c D d : F} {h : Int} (ha : 0 < a.k) (he : K.ex a = 2 * h) (b1 : -600 ≤ h) (b2 : h ≤ 600) {r : Bool → F × Int} (R : RootR K.L (K.fr a) h r c D d) (up : Bool) (w : World) :
    Calls Tryz.prog 122 #[.float .f64 a.b, .bool up] w fun e w' => e = .returned (.tuple #[.float .f64 (r up).1.b, .int .i64 (r up).2]) ∧ Below w.heap.size w w' := by
  have ec : rtN (K.fr a) = c := by unfold rtN; rw [R.s]; exact toF_F c
  have en : wrp ((K.ex a).tdiv 2) = h := by rw [he, Int.mul_tdiv_cancel_left _ (by decide)]; exact wrp_eq (by omega) (by omega)
  have em : (!((K.ex a).tmod 2 == 0)) = false := by rw [he, Int.mul_tmod_right]; rfl
  have eD : toF (K.L c h) = D := by rw [R.l]; exact toF_F D
  have ey : toF (K.L D (-h)) = c := by rw [R.b]; exact toF_F c
  obtain ⟨f1, f2⟩ := fW_F R.m
  have hr := rqRun1 K a up
  unfold mu1 at hr
  rw [ec, en, eD, ey, f1] at hr
  have z1 : nzB (K.L c h) = true := by rw [R.l]; exact nz_F R.dn
  have z2 : nzB (K.L D (-h)) = true := by rw [R.b]; exact nz_F R.cn
  refine calls_of_val goodH hO 80 hr (ObsOk.of_B (obsB_yes (by rw [right_F, Bool.true_or]) (obsB_yes f2 (obsB_yes (by rw [decide_eq_false R.cn]; rfl) (obsB_yes z2 (obsB_yes (decide_eq_true (by omega)) (obsB_yes z1 (obsB_yes (by rw [R.s]; rfl) (obsB_yes (by rw [R.s]; exact right_F c) (obsB_yes em (obsB_yes (by rw [decide_eq_false (by omega)]; rfl) (obsB_yes (k_ne0 (by omega)) (obsB_yes (by rw [zero_k']; exact decide_eq_false (by omega)) obsB_nil))))))))))))) rfl (plain_sdS (by rw [dF_F]; exact R.r up)) w
theorem rsqrt_2 {K : Kf} (hO : OracleOk Tryz.prog (OMu K)) {a c D d f : F} {h : Int} (ha : 0 < a.k) (hf : Ieee.double.div (K.fr a).b twoF.b = some f.b) (he : K.ex a = 2 * h - 1) (b1 : -600 ≤ h) (b2 : h ≤ 600) {r : Bool → F × Int} (R : RootR K.L f h r c D d) (up : Bool) (w : World) :
    Calls Tryz.prog 122 #[.float .f64 a.b, .bool up] w fun e w' => e = .returned (.tuple #[.float .f64 (r up).1.b, .int .i64 (r up).2]) ∧ Below w.heap.size w w' := by
  have hf' : Ieee.double.div (K.fr a).b (toF 4611686018427387904).b = some f.b := hf
  have eh : hlF (K.fr a) = f := by unfold hlF dN; rw [hf']; exact toF_F f
  have ec : rtN f = c := by unfold rtN; rw [R.s]; exact toF_F c
  have en : wrp ((wrp (K.ex a + 1)).tdiv 2) = h := by rw [he, show 2 * h - 1 + 1 = 2 * h by omega, wrp_eq (n := 2 * h) (by omega) (by omega), Int.mul_tdiv_cancel_left _ (by decide)]; exact wrp_eq (by omega) (by omega)
  have em : (!((K.ex a).tmod 2 == 0)) = true := by
    cases g : ((K.ex a).tmod 2 == 0)
    · rfl
    · have g := Int.dvd_of_tmod_eq_zero (eq_of_beq g)
      omega
  have eD : toF (K.L c h) = D := by rw [R.l]; exact toF_F D
  have ey : toF (K.L D (-h)) = c := by rw [R.b]; exact toF_F c
  obtain ⟨f1, f2⟩ := fW_F R.m
  have hr := rqRun2 K a up
  unfold mu1 at hr
  rw [eh, ec, en, eD, ey, f1] at hr
  have z1 : nzB (K.L c h) = true := by rw [R.l]; exact nz_F R.dn
  have z2 : nzB (K.L D (-h)) = true := by rw [R.b]; exact nz_F R.cn
  refine calls_of_val goodH hO 80 hr (ObsOk.of_B (obsB_yes (by rw [right_F, Bool.true_or]) (obsB_yes f2 (obsB_yes (by rw [decide_eq_false R.cn]; rfl) (obsB_yes z2 (obsB_yes (decide_eq_true (by omega)) (obsB_yes z1 (obsB_yes (by rw [R.s]; rfl) (obsB_yes (by rw [R.s]; exact right_F c) (obsB_yes (by rw [hf']; rfl) (obsB_yes (by rw [hf']; exact right_F f) (obsB_yes em (obsB_yes (by rw [decide_eq_false (by omega)]; rfl) (obsB_yes (k_ne0 (by omega)) (obsB_yes (by rw [zero_k']; exact decide_eq_false (by omega)) obsB_nil))))))))))))))) rfl (plain_sdS (by rw [dF_F]; exact R.r up)) w
theorem sc_half {a f g : F} {h : Int} (hs : Sc f a (2 * h - 1)) (hg : g.z.natAbs * 2 = f.z.natAbs) (ha : 0 < a.k) (hp : 0 < g.k) : Sc g a (2 * h) := by
  have h1 := Sc_abs hs
  refine sc_mk ?_ (by omega)
  rcases (show 1 ≤ h ∨ h ≤ 0 by omega) with c | c
  · rw [show (-(2 * h - 1)).toNat = 0 by omega, ← hg] at h1
    rw [show (-(2 * h)).toNat = 0 by omega, show (2 * h).toNat = (2 * h - 1).toNat + 1 by omega, Nat.pow_succ, h1]
    generalize 2 ^ (2 * h - 1).toNat = x
    grind
  · rw [show (-(2 * h - 1)).toNat = (-(2 * h)).toNat + 1 by omega, show (2 * h - 1).toNat = 0 by omega, ← hg, Nat.pow_succ] at h1
    rw [show (2 * h).toNat = 0 by omega]
    rw [Nat.pow_zero, Nat.mul_one, ← Nat.mul_assoc] at h1
    rw [Nat.pow_zero, Nat.mul_one]
    exact Nat.eq_of_mul_eq_mul_right (by decide) h1
theorem rsqrt_F (a : F) (up : Bool) (w : World) : Calls Tryz.prog 122 #[.float .f64 a.b, .bool up] w fun e w' => e = .returned (.tuple #[.float .f64 (qSqrt up a).1.b, .int .i64 (qSqrt up a).2]) ∧ Below w.heap.size w w' := by
  unfold qSqrt
  by_cases h1 : a.k < 0
  · rw [if_pos h1]
    exact calls_of_val goodH oracleMu 80 (rqRun0 KfR a up) (ObsOk.of_B (obsB_yes (by rw [zero_k']; exact decide_eq_true h1) obsB_nil)) rfl rfl w
  · rw [if_neg h1]
    by_cases h2 : a.k = 0
    · rw [if_pos h2]
      exact calls_of_val goodH oracleMu 80 (rqRun0' KfR a up) (ObsOk.of_B (obsB_yes (by rw [zero_k']; exact decide_eq_true h2) (obsB_yes (by rw [zero_k']; exact decide_eq_false h1) obsB_nil))) rfl rfl w
    · rw [if_neg h2]
      have ha : 0 < a.k := by omega
      obtain ⟨fa, sa, ka, la, ua⟩ := fr_ok h2
      have hp : 0 < (frF a).k := by
        have s1 := sc_sign sa
        have s2 := z_sign a
        have s3 := z_sign (frF a)
        omega
      obtain ⟨h, hh⟩ : ∃ h : Int, exF a = 2 * h ∨ exF a = 2 * h - 1 := by
        rcases (show exF a % 2 = 0 ∨ exF a % 2 = 1 by omega) with g | g
        · exact ⟨exF a / 2, .inl (by omega)⟩
        · exact ⟨(exF a + 1) / 2, .inr (by omega)⟩
      rcases hh with hh | hh
      · obtain ⟨m, q⟩ := frQ_0 fa hp
        obtain ⟨c, D, d, R⟩ := root_side (h := h) ha q (by rw [← hh]; exact sa) (by omega) (by omega)
        exact rsqrt_1 (K := KfR) oracleMu ha hh (by omega) (by omega) R up w
      · obtain ⟨m, q, _, hz⟩ := frQ_1 fa hp
        obtain ⟨c, D, d, R⟩ := root_side (h := h) ha q (sc_half (by rw [← hh]; exact sa) hz ha (hf_k fa hp).2.2) (by omega) (by omega)
        exact rsqrt_2 (K := KfR) oracleMu ha (half_div fa hp) hh (by omega) (by omega) R up w
theorem rsqrtG : PlainOk Tryz.prog 122 (kOne qSqrt) := by
  intro args ds x ds' ob h1 ho
  unfold kOne at h1
  split at h1
  · rename_i x up
    simp only [Option.some.injEq, Prod.mk.injEq] at h1
    obtain ⟨rfl, _, _⟩ := h1
    exact ⟨[.float .f64 x.b, .bool up], _, rfl, rfl, fun w => rsqrt_F x up w⟩
  · cases h1
end Go.Proofs.YtmhhopfffeijnaaGreat
