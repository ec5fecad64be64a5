/- Products and quotients, as the document tells them: what is reckoned comes to the product, and the quotient, rounded to its side. -/
import Derived.Test.YtmhhopfffeijnaaGreatNj
namespace Bu
set_option linter.all false
open Ieee Rx

@[irreducible] def X68 : Nat := 2 ^ 968
theorem X68_f : X19 = 2251799813685248 * X68 := by decide +kernel
def rQuart : Nat := 4598175219545276416
def rOne : Nat := 4607182418800017408
theorem rQuart_nv : 4 * nv rQuart = S := by decide +kernel
theorem rOne_nv : nv rOne = S := by decide +kernel
def F4 : F := F.dy 1 2
def F8 : F := F.dy 1 3
theorem F4_z : F4.z = 4 * (S : Int) := by decide +kernel
theorem F8_z : F8.z = 8 * (S : Int) := by decide +kernel
theorem max_S : 2 * (2 * S) ≤ F.max.z.natAbs := by decide +kernel
theorem S_P : 4 * (2 * P) ≤ S := by decide +kernel
theorem back_ok' {x D : F} {n : Int} (h1 : S ≤ 4 * x.z.natAbs) (h2 : x.z.natAbs ≤ 2 * S) (hD : D.k = ldK x n) : ∃ y : F, y.z * ((2 ^ n.toNat : Nat) : Int) = D.z * ((2 ^ (-n).toNat : Nat) : Int) ∧ y.z.natAbs ≤ 2 * x.z.natAbs ∧ (D.k ≠ 0 → x.z.natAbs ≤ 2 * y.z.natAbs) :=
  back_ok (Nat.le_of_mul_le_mul_left (Nat.le_trans S_P h1) (by decide)) hD (Nat.le_trans (Nat.mul_le_mul_left 2 h2) max_S)
theorem sideW_0 (pos neg up : Bool) : sideW 0 pos neg up = sideF F.zero pos neg up := by
  have h1 : Nat.beq 0 INF = false := by decide +kernel
  have h2 : Nat.beq 0 NINF = false := by decide +kernel
  unfold sideW
  rw [h1, h2, cond_false, cond_false]
theorem sideW_NEG0 (pos neg up : Bool) : sideW NEG0 pos neg up = sideF F.zero pos neg up := by
  have h1 : Nat.beq NEG0 INF = false := by decide +kernel
  have h2 : Nat.beq NEG0 NINF = false := by decide +kernel
  unfold sideW
  rw [h1, h2, cond_false, cond_false]
theorem sideW_INF (pos neg up : Bool) : sideW INF pos neg up = bif up then (F.zero, 10) else (F.max, 0) := by
  have h1 : Nat.beq INF INF = true := by decide +kernel
  unfold sideW
  rw [h1, cond_true]
theorem sideW_NINF (pos neg up : Bool) : sideW NINF pos neg up = bif up then (F.min, 0) else (F.zero, 10) := by
  have h1 : Nat.beq NINF INF = false := by decide +kernel
  have h2 : Nat.beq NINF NINF = true := by decide +kernel
  unfold sideW
  rw [h1, h2, cond_false, cond_true]
set_option maxRecDepth 100000 in
theorem mul_out {f g : F} (hf : FrP f) (hg : FrP g) : ∃ c : F, double.mul f.b g.b = some c.b ∧ Nk c.k (f.z * g.z) S ∧ S ≤ 4 * c.z.natAbs ∧ c.z.natAbs ≤ S ∧ ∃ q : Int, f.z * g.z = q * (S : Int) ∧ q.natAbs ≤ S ∧ f.z * g.z ≠ 0 := by
  obtain ⟨m, m1, m2, m3, m4⟩ := hf.z
  obtain ⟨n, n1, n2, n3, n4⟩ := hg.z
  have hP := P_pos
  have hS := S_pos
  have hX := X19_pos
  have eX := X68_f
  have eS := S_X
  have hf0 : f.z ≠ 0 := fun h => by rw [h] at m4; have := Nat.mul_pos (show 0 < m by omega) (show 0 < 4 * X19 by omega); simp at m4; omega
  have hg0 : g.z ≠ 0 := fun h => by rw [h] at n4; have := Nat.mul_pos (show 0 < n by omega) (show 0 < 4 * X19 by omega); simp at n4; omega
  have hfk : f.k ≠ 0 := fun h => hf0 ((z_zero f).2 h)
  have hgk : g.k ≠ 0 := fun h => hg0 ((z_zero g).2 h)
  have ab : (f.z * g.z).natAbs = m * n * X68 * S := by
    rw [Int.natAbs_mul, m4, n4, eS, eX]
    generalize X68 = x
    grind
  have lo : nv rQuart * S ≤ m * n * X68 * S := by
    apply Nat.mul_le_mul_right
    have e := rQuart_nv
    have h1 : P * P * X68 ≤ m * n * X68 := Nat.mul_le_mul_right _ (Nat.mul_le_mul m1 n1)
    have h2 : 4 * (P * P * X68) = S := by
      rw [eS, eX, show P = 4503599627370496 from rfl]
      generalize X68 = x
      grind
    omega
  have hi : m * n * X68 * S ≤ nv rOne * S := by
    apply Nat.mul_le_mul_right
    rw [rOne_nv]
    have h1 : m * n * X68 ≤ 2 * P * (2 * P) * X68 := Nat.mul_le_mul_right _ (Nat.mul_le_mul (by omega) (by omega))
    have h2 : 2 * P * (2 * P) * X68 = S := by
      rw [eS, eX, show P = 4503599627370496 from rfl]
      generalize X68 = x
      grind
    omega
  have nk := @near_Nk (f.z * g.z) S hS
  have hT := T_num
  have q1 : rOne = 4607182418800017408 := rfl
  have q2 : rQuart = 4598175219545276416 := rfl
  have rz : nvZ (rQuart : Int) = (nv rQuart : Int) := nvZ_natCast _
  have ro : nvZ (rOne : Int) = (nv rOne : Int) := nvZ_natCast _
  have ne : f.z * g.z ≠ 0 := mul_ne hf0 hg0
  have lo' : ((nv rQuart * S : Nat) : Int) ≤ ((f.z * g.z).natAbs : Int) := by rw [ab]; exact Int.ofNat_le.2 lo
  have hi' : ((f.z * g.z).natAbs : Int) ≤ ((nv rOne * S : Nat) : Int) := by rw [ab]; exact Int.ofNat_le.2 hi
  rw [Int.natCast_mul] at lo' hi'
  have b1 : (nearZ (f.z * g.z) S).natAbs ≤ rOne := by
    have u1 := nk.up (rOne : Int) (by rw [ro]; omega)
    have u2 := nk.dn (-(rOne : Int)) (by rw [nvZ_neg, ro, Int.neg_mul]; omega)
    omega
  have b2 : rQuart ≤ (nearZ (f.z * g.z) S).natAbs := by
    rcases (show f.z * g.z < 0 ∨ 0 < f.z * g.z by omega) with c | c
    · have u1 := nk.up (-(rQuart : Int)) (by rw [nvZ_neg, rz, Int.neg_mul]; omega)
      omega
    · have u1 := nk.dn (rQuart : Int) (by rw [rz]; omega)
      omega
  obtain ⟨D, e, k⟩ : ∃ D : F, wrd (f.z * g.z) S = D.b ∧ D.k = nearZ (f.z * g.z) S := by
    rcases out_wrd (f.z * g.z) hS with h | ⟨_, h⟩ | ⟨_, h⟩ | ⟨_, h⟩
    · exact h
    · omega
    · omega
    · omega
  have zD := z_natAbs' D
  rw [k] at zD
  have l1 := nv_le b1
  have l2 := nv_le b2
  have e1 := rQuart_nv
  have e2 := rOne_nv
  have hq : m * n * X68 ≤ S := by
    rw [rOne_nv] at hi
    exact Nat.le_of_mul_le_mul_right hi hS
  rw [← k] at nk
  refine ⟨D, by rw [mul_wrd f g hfk hgk, e], nk, ?_, ?_, ?_⟩
  · clear lo hi lo' hi' nk ab
    generalize nearZ (f.z * g.z) S = K at *
    omega
  · clear lo hi lo' hi' nk ab
    generalize nearZ (f.z * g.z) S = K at *
    omega
  · clear lo hi lo' hi' nk e k zD l1 l2 b1 b2
    generalize m * n * X68 = w at *
    rcases (show f.z * g.z < 0 ∨ 0 < f.z * g.z by omega) with c | c
    · refine ⟨-(w : Int), ?_, by omega, ne⟩
      rw [Int.neg_mul, ← Int.natCast_mul, ← ab]; omega
    · refine ⟨(w : Int), ?_, by omega, ne⟩
      rw [← Int.natCast_mul, ← ab]; omega
/-! words and places -/
set_option maxRecDepth 100000 in
theorem sideF_K {D : F} (pos neg up : Bool) : sideF D pos neg up = sideK D.k pos neg up := by
  have := D.hk
  unfold sideK
  rw [if_neg (by omega), if_neg (by omega), F.of_self]
set_option maxRecDepth 100000 in
theorem sideW_K {w : Nat} {k : Int} (h : Out w k) (hw : badC w = true) (pos neg up : Bool) : sideW w pos neg up = sideK k pos neg up := by
  have z0 : F.zero.b = 0 := by decide
  have zk : F.zero.k = 0 := rfl
  rcases h with ⟨D, rfl, e⟩ | ⟨rfl, e⟩ | ⟨rfl, e⟩ | ⟨rfl, e⟩
  · have hr := right_F D
    rcases badC_or hw with h | h
    · rcases badB_or h with h | h | h <;> (rw [h] at hr; exact absurd hr (by decide +kernel))
    · have hD : D = F.zero := F.b_inj (by rw [h, z0])
      subst hD
      rw [z0, sideW_0, sideF_K, e]
  · rw [sideW_NEG0, sideF_K, zk, e]
  · unfold sideK
    rw [if_pos e, sideW_INF]
  · unfold sideK
    have hT := T_num
    rw [if_neg (by omega), if_pos e, sideW_NINF]
set_option maxRecDepth 100000 in
theorem nz_right {w : Nat} {k : Int} (h : Out w k) : (∃ D : F, w = D.b ∧ D.k = k ∧ D.k ≠ 0 ∧ nzB w = true) ∨ (badC w = true ∧ nzB w = false ∧ (k = 0 ∨ (T : Int) ≤ k ∨ k ≤ -(T : Int)) ∧ ((Nat.beq w INF || Nat.beq w NINF) = true ∨ (Nat.beq w INF || Nat.beq w NINF) = false ∧ (w = NEG0 ∨ w = 0))) := by
  rcases h with ⟨D, rfl, e⟩ | ⟨rfl, e⟩ | ⟨rfl, e⟩ | ⟨rfl, e⟩
  · by_cases hD : D.k = 0
    · right
      have hD' : D = F.zero := F.ext' hD
      subst hD'
      refine ⟨by decide, by decide, .inl ?_, .inr ⟨by decide, .inr (by decide)⟩⟩
      rw [← e]; exact hD
    · left
      refine ⟨D, rfl, e, hD, ?_⟩
      unfold nzB
      rw [right_F, Bool.true_and]
      have : ¬ D.b = 0 := fun h => hD (by rw [F.b_inj (x := D) (y := F.zero) (by rw [h]; decide)]; rfl)
      cases hb : Nat.beq D.b 0
      · rfl
      · exact absurd (Nat.eq_of_beq_eq_true hb) this
  · exact .inr ⟨by decide, by decide, .inl e, .inr ⟨by decide, .inl rfl⟩⟩
  · exact .inr ⟨by decide, by decide, .inr (.inl e), .inl (by decide)⟩
  · exact .inr ⟨by decide, by decide, .inr (.inr e), .inl (by decide)⟩
/-- a word of zero, of either sign -/
theorem read_z {w : Nat} (h : w = NEG0 ∨ w = 0) : ∃ s, double.read w = .number s (man 0) (-1074 + (pl 0 : Int)) := by
  rcases h with rfl | rfl
  · exact ⟨true, read_NEG0⟩
  · have := read_F F.zero
    exact ⟨false, this⟩
theorem fma_z {f g : F} {w : Nat} (h : w = NEG0 ∨ w = 0) (hn : f.z * g.z ≠ 0) : double.fma f.b g.b w = some (wrd (f.z * g.z) S) := by
  obtain ⟨s, hs⟩ := read_z h
  refine fma_gen (read_F f) (read_F g) hs ?_ (fun h => absurd h hn)
  rw [nv_zero, ← z_form, ← z_form]
  simp
theorem fma_z' {f g : F} {w : Nat} (h : w = NEG0 ∨ w = 0) (hn : f.z ≠ 0) : double.fma w g.b f.b = some (wrd (f.z * (S : Int)) S) := by
  obtain ⟨s, hs⟩ := read_z h
  refine fma_gen hs (read_F g) (read_F f) ?_ (fun h => ?_)
  · rw [nv_zero, ← z_form, ← z_form]
    simp
  · have := S_pos
    rcases Int.mul_eq_zero.1 h with h | h
    · exact absurd h hn
    · omega
theorem neg_z {w : Nat} (h : w = NEG0 ∨ w = 0) : Go.Op.negFloat .f64 w = NEG0 ∨ Go.Op.negFloat .f64 w = 0 := by
  rcases h with rfl | rfl
  · right; decide
  · left; decide
/-! products -/
theorem mul_ratio {a b f g : F} {ea eb : Int} (fa : Sc f a ea) (fb : Sc g b eb) : a.z * b.z * ((S * 2 ^ (-(ea + eb)).toNat : Nat) : Int) = f.z * g.z * ((2 ^ (ea + eb).toNat : Nat) : Int) * (S : Int) := by
  unfold Sc at fa fb
  have p1 : (0 : Int) < ((2 ^ (-ea).toNat : Nat) : Int) := by have := Nat.two_pow_pos (-ea).toNat; omega
  have p2 : (0 : Int) < ((2 ^ (-eb).toNat : Nat) : Int) := by have := Nat.two_pow_pos (-eb).toNat; omega
  have e : 2 ^ ea.toNat * 2 ^ eb.toNat * 2 ^ (-(ea + eb)).toNat = 2 ^ (-ea).toNat * 2 ^ (-eb).toNat * 2 ^ (ea + eb).toNat := by
    rw [← Nat.pow_add, ← Nat.pow_add, ← Nat.pow_add, ← Nat.pow_add]; congr 1; omega
  have e' : ((2 ^ ea.toNat : Nat) : Int) * ((2 ^ eb.toNat : Nat) : Int) * ((2 ^ (-(ea + eb)).toNat : Nat) : Int) = ((2 ^ (-ea).toNat : Nat) : Int) * ((2 ^ (-eb).toNat : Nat) : Int) * ((2 ^ (ea + eb).toNat : Nat) : Int) := by
    rw [← Int.natCast_mul, ← Int.natCast_mul, ← Int.natCast_mul, ← Int.natCast_mul, e]
  rw [Int.natCast_mul]
  generalize ((2 ^ (-ea).toNat : Nat) : Int) = u at *
  generalize ((2 ^ (-eb).toNat : Nat) : Int) = v at *
  generalize ((2 ^ ea.toNat : Nat) : Int) = u' at *
  generalize ((2 ^ eb.toNat : Nat) : Int) = v' at *
  generalize ((2 ^ (-(ea + eb)).toNat : Nat) : Int) = r at *
  generalize ((2 ^ (ea + eb).toNat : Nat) : Int) = r' at *
  have h : (a.z * b.z * ((S : Int) * r) - f.z * g.z * r' * (S : Int)) * (u * v) = 0 := by grind
  rcases Int.mul_eq_zero.1 h with h | h
  · omega
  · have := Int.mul_pos p1 p2; omega
structure SideR (L : F → Int → Nat) (c0 : F) (n : Int) (x1 x2 : F) (r : Bool → F × Int) : Prop where
  /-- a number, not 0: back again; what is lacking -/
  num : nzB (L c0 n) = true → ∃ D y : F, ∃ d : F, L c0 n = D.b ∧ L D (-n) = y.b ∧ nzB (L D (-n)) = true ∧ y.k ≠ 0 ∧ double.fma x1.b x2.b y.neg.b = some d.b ∧ ∀ up, sideF D (decide (0 < d.k)) (decide (d.k < 0)) up = r up
  /-- any other word -/
  word : nzB (L c0 n) = false → badC (L c0 n) = true ∧ ((Nat.beq (L c0 n) INF || Nat.beq (L c0 n) NINF) = true ∨ (Nat.beq (L c0 n) INF || Nat.beq (L c0 n) NINF) = false ∧ (L c0 n = NEG0 ∨ L c0 n = 0)) ∧ ∀ z, (z = NEG0 ∨ z = 0) → ∃ d : F, double.fma x1.b x2.b z = some d.b ∧ ∀ up, sideW (L c0 n) (decide (0 < d.k)) (decide (d.k < 0)) up = r up
set_option maxRecDepth 100000 in
theorem nz_F {y : F} (h : y.k ≠ 0) : nzB y.b = true := by
  rcases nz_right (w := y.b) (k := y.k) (.inl ⟨y, rfl, rfl⟩) with ⟨_, _, _, _, h⟩ | ⟨_, _, h1, h2⟩
  · exact h
  · exfalso
    have := y.hk
    have := T_num
    rcases h1 with h1 | h1 | h1 <;> omega
set_option maxRecDepth 100000 in
theorem mul_side {a b : F} (ha : a.k ≠ 0) (hb : b.k ≠ 0) : ∃ c0 : F, double.mul (frF a).b (frF b).b = some c0.b ∧ SideR ldW c0 (exF a + exF b) (frF a) (frF b) (fun up => dMul up a b) := by
  obtain ⟨fa, sa, ka, la, ua⟩ := fr_ok ha
  obtain ⟨fb, sb, kb, lb, ub⟩ := fr_ok hb
  obtain ⟨c0, e0, nk0, lo, hi, q, eq, qS, ne⟩ := mul_out fa fb
  have hr := mul_ratio sa sb
  have hS := S_pos
  have big : 2 * P * S ≤ (frF a).z.natAbs * (frF b).z.natAbs := by
    rw [← Int.natAbs_mul, eq, mul_abs]
    apply Nat.mul_le_mul_right
    have := nk0
    -- q is not small
    obtain ⟨m, m1, m2, m3, m4⟩ := fa.z
    obtain ⟨n, n1, n2, n3, n4⟩ := fb.z
    have ab : q.natAbs * S = m * n * X68 * S := by
      rw [← mul_abs, ← eq, Int.natAbs_mul, m4, n4, S_X, X68_f]
      generalize X68 = x
      grind
    have := Nat.eq_of_mul_eq_mul_right hS ab
    rw [this]
    have x0 : 0 < X68 := by
      have := X19_pos; rw [X68_f] at this; omega
    have h1 : 2 * P ≤ m * n := by
      have : P * P ≤ m * n := Nat.mul_le_mul m1 n1
      have : 2 * P ≤ P * P := by decide
      omega
    exact Nat.le_trans h1 (Nat.le_mul_of_pos_right _ x0)
  rw [← Int.natAbs_mul] at big
  have nk := scaled_Nk (x := c0) hS hS hr nk0 big
  have out := ld_out c0 (exF a + exF b)
  have fin : ∀ {y : Int}, y.natAbs ≤ 2 * S → ∃ d : F, wrd ((frF a).z * (frF b).z - y * (S : Int)) S = d.b ∧ (0 < d.k ↔ y * (S : Int) < (frF a).z * (frF b).z) ∧ (d.k < 0 ↔ (frF a).z * (frF b).z < y * (S : Int)) := by
    intro y hy
    obtain ⟨d, d1, d2, d3⟩ := wrd_mult (n := q - y) (g := F4) (by rw [F4_z]; omega) (by rw [F4_z]; omega)
    rw [Int.sub_mul, ← eq] at d1
    refine ⟨d, d1, ?_, ?_⟩
    · rw [d2, eq, lt_scale hS]; omega
    · rw [d3, eq, lt_scale hS]; omega
  refine ⟨c0, e0, ?_, ?_⟩
  · intro hz
    rcases nz_right out with ⟨D, w1, w2, w3, _⟩ | ⟨_, h, _⟩
    · obtain ⟨y, y1, y2, y3⟩ := back_ok' (x := c0) (D := D) (n := exF a + exF b) lo (by omega) w2
      have hsc : Sc D y (-(exF a + exF b)) := by
        unfold Sc
        rw [Int.neg_neg]
        exact y1
      have y0 : y.k ≠ 0 := fun h => by
        have h1 := y3 w3
        rw [(z_zero y).2 h] at h1
        omega
      obtain ⟨d, d1, d2, d3⟩ := fin (y := y.z) (by omega)
      have s := scaled_side hS hS hr y1
      refine ⟨D, y, d, w1, ld_exact hsc, by rw [ld_exact hsc]; exact nz_F y0, y0, ?_, fun up => ?_⟩
      · rw [← negFloat_F y y0, fma_sub ka kb, d1]
      · rw [sideF_K, w2]
        have ez : nvZ (ldK c0 (exF a + exF b)) = D.z := by rw [← w2]; rfl
        refine sideK_ok hS nk (fun _ _ => ?_) (fun _ _ => ?_)
        · rw [decide_eq_true_iff, d2, ez, s.1]
        · rw [decide_eq_true_iff, d3, ez, s.2]
    · rw [h] at hz; cases hz
  · intro hz
    rcases nz_right out with ⟨D, _, _, _, h⟩ | ⟨h1, _, h2, h3⟩
    · rw [h] at hz; cases hz
    · refine ⟨h1, h3, fun z hzz => ?_⟩
      obtain ⟨d, d1, d2, d3⟩ := fin (y := 0) (by omega)
      rw [Int.zero_mul, Int.sub_zero] at d1
      rw [Int.zero_mul] at d2 d3
      refine ⟨d, by rw [fma_z hzz ne, d1], fun up => ?_⟩
      rw [sideW_K out h1]
      have s := scaled_side hS hS hr (D := 0) (y := 0) (by rw [Int.zero_mul, Int.zero_mul])
      rw [Int.zero_mul] at s
      refine sideK_ok hS nk (fun l u => ?_) (fun l u => ?_)
      · have k0 : ldK c0 (exF a + exF b) = 0 := by omega
        rw [k0, nvZ_zero, Int.zero_mul, decide_eq_true_iff, d2]
        exact s.1.symm
      · have k0 : ldK c0 (exF a + exF b) = 0 := by omega
        rw [k0, nvZ_zero, Int.zero_mul, decide_eq_true_iff, d3]
        exact s.2.symm
end Bu
