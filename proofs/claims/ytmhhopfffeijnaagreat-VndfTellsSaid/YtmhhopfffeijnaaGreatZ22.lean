/- Products and quotients, as the document tells them: what is reckoned comes to the product, and the quotient, rounded to its side. Quotients, as the document tells them. burnishref01: near, Mul, Div: they round to the side. burnishref01: Mul and Div round to the side. -/
import Derived.Test.YtmhhopfffeijnaaGreatZ21
namespace Bu
set_option linter.all false
open Ieee Rx

@[irreducible] def X68 : Nat := 2 ^ 968
theorem X68_f : X19 = 2251799813685248 * X68 := by decide +kernel
def rQuart : Nat := 4598175219545276416
def rOne : Nat := 4607182418800017408
theorem rQuart_nv : 4 * nv rQuart = S := by decide +kernel
theorem rOne_nv : nv rOne = S := by decide +kernel
def F4 : F := F.dy 1 2
def F8 : F := F.dy 1 3
theorem F4_z : F4.z = 4 * (S : Int) := by decide +kernel
theorem F8_z : F8.z = 8 * (S : Int) := by decide +kernel
theorem max_S : 2 * (2 * S) ≤ F.max.z.natAbs := by decide +kernel
theorem S_P : 4 * (2 * P) ≤ S := by decide +kernel
theorem back_ok' {x D : F} {n : Int} (h1 : S ≤ 4 * x.z.natAbs) (h2 : x.z.natAbs ≤ 2 * S) (hD : D.k = ldK x n) : ∃ y : F, y.z * ((2 ^ n.toNat : Nat) : Int) = D.z * ((2 ^ (-n).toNat : Nat) : Int) ∧ y.z.natAbs ≤ 2 * x.z.natAbs ∧ (D.k ≠ 0 → x.z.natAbs ≤ 2 * y.z.natAbs) :=
  back_ok (Nat.le_of_mul_le_mul_left (Nat.le_trans S_P h1) (by decide)) hD (Nat.le_trans (Nat.mul_le_mul_left 2 h2) max_S)
theorem sideW_0 (pos neg up : Bool) : sideW 0 pos neg up = sideF F.zero pos neg up := by
  have h1 : Nat.beq 0 INF = false := by decide +kernel
  have h2 : Nat.beq 0 NINF = false := by decide +kernel
  unfold sideW
  rw [h1, h2, cond_false, cond_false]
theorem sideW_NEG0 (pos neg up : Bool) : sideW NEG0 pos neg up = sideF F.zero pos neg up := by
  have h1 : Nat.beq NEG0 INF = false := by decide +kernel
  have h2 : Nat.beq NEG0 NINF = false := by decide +kernel
  unfold sideW
  rw [h1, h2, cond_false, cond_false]
theorem sideW_INF (pos neg up : Bool) : sideW INF pos neg up = bif up then (F.zero, 10) else (F.max, 0) := by
  have h1 : Nat.beq INF INF = true := by decide +kernel
  unfold sideW
  rw [h1, cond_true]
theorem sideW_NINF (pos neg up : Bool) : sideW NINF pos neg up = bif up then (F.min, 0) else (F.zero, 10) := by
  have h1 : Nat.beq NINF INF = false := by decide +kernel
  have h2 : Nat.beq NINF NINF = true := by decide +kernel
  unfold sideW
  rw [h1, h2, cond_false, cond_true]
set_option maxRecDepth 100000 in
theorem mul_out {f g : F} (hf : FrP f) (hg : FrP g) : ∃ c : F, double.mul f.b g.b = some c.b ∧ Nk c.k (f.z * g.z) S ∧ S ≤ 4 * c.z.natAbs ∧ c.z.natAbs ≤ S ∧ ∃ q : Int, f.z * g.z = q * (S : Int) ∧ q.natAbs ≤ S ∧ f.z * g.z ≠ 0 := by
  obtain ⟨m, m1, m2, m3, m4⟩ := hf.z
  obtain ⟨n, n1, n2, n3, n4⟩ := hg.z
  have hP := P_pos
  have hS := S_pos
  have hX := X19_pos
  have eX := X68_f
  have eS := S_X
  have hf0 : f.z ≠ 0 := fun h => by rw [h] at m4; have := Nat.mul_pos (show 0 < m by omega) (show 0 < 4 * X19 by omega); simp at m4; omega
  have hg0 : g.z ≠ 0 := fun h => by rw [h] at n4; have := Nat.mul_pos (show 0 < n by omega) (show 0 < 4 * X19 by omega); simp at n4; omega
  have hfk : f.k ≠ 0 := fun h => hf0 ((z_zero f).2 h)
  have hgk : g.k ≠ 0 := fun h => hg0 ((z_zero g).2 h)
  have ab : (f.z * g.z).natAbs = m * n * X68 * S := by
    rw [Int.natAbs_mul, m4, n4, eS, eX]
    generalize X68 = x
    grind
  have lo : nv rQuart * S ≤ m * n * X68 * S := by
    apply Nat.mul_le_mul_right
    have e := rQuart_nv
    have h1 : P * P * X68 ≤ m * n * X68 := Nat.mul_le_mul_right _ (Nat.mul_le_mul m1 n1)
    have h2 : 4 * (P * P * X68) = S := by
      rw [eS, eX, show P = 4503599627370496 from rfl]
      generalize X68 = x
      grind
    omega
  have hi : m * n * X68 * S ≤ nv rOne * S := by
    apply Nat.mul_le_mul_right
    rw [rOne_nv]
    have h1 : m * n * X68 ≤ 2 * P * (2 * P) * X68 := Nat.mul_le_mul_right _ (Nat.mul_le_mul (by omega) (by omega))
    have h2 : 2 * P * (2 * P) * X68 = S := by
      rw [eS, eX, show P = 4503599627370496 from rfl]
      generalize X68 = x
      grind
    omega
  have nk := @near_Nk (f.z * g.z) S hS
  have hT := T_num
  have q1 : rOne = 4607182418800017408 := rfl
  have q2 : rQuart = 4598175219545276416 := rfl
  have rz : nvZ (rQuart : Int) = (nv rQuart : Int) := nvZ_natCast _
  have ro : nvZ (rOne : Int) = (nv rOne : Int) := nvZ_natCast _
  have ne : f.z * g.z ≠ 0 := mul_ne hf0 hg0
  have lo' : ((nv rQuart * S : Nat) : Int) ≤ ((f.z * g.z).natAbs : Int) := by rw [ab]; exact Int.ofNat_le.2 lo
  have hi' : ((f.z * g.z).natAbs : Int) ≤ ((nv rOne * S : Nat) : Int) := by rw [ab]; exact Int.ofNat_le.2 hi
  rw [Int.natCast_mul] at lo' hi'
  have b1 : (nearZ (f.z * g.z) S).natAbs ≤ rOne := by
    have u1 := nk.up (rOne : Int) (by rw [ro]; omega)
    have u2 := nk.dn (-(rOne : Int)) (by rw [nvZ_neg, ro, Int.neg_mul]; omega)
    omega
  have b2 : rQuart ≤ (nearZ (f.z * g.z) S).natAbs := by
    rcases (show f.z * g.z < 0 ∨ 0 < f.z * g.z by omega) with c | c
    · have u1 := nk.up (-(rQuart : Int)) (by rw [nvZ_neg, rz, Int.neg_mul]; omega)
      omega
    · have u1 := nk.dn (rQuart : Int) (by rw [rz]; omega)
      omega
  obtain ⟨D, e, k⟩ : ∃ D : F, wrd (f.z * g.z) S = D.b ∧ D.k = nearZ (f.z * g.z) S := by
    rcases out_wrd (f.z * g.z) hS with h | ⟨_, h⟩ | ⟨_, h⟩ | ⟨_, h⟩
    · exact h
    · omega
    · omega
    · omega
  have zD := z_natAbs' D
  rw [k] at zD
  have l1 := nv_le b1
  have l2 := nv_le b2
  have e1 := rQuart_nv
  have e2 := rOne_nv
  have hq : m * n * X68 ≤ S := by
    rw [rOne_nv] at hi
    exact Nat.le_of_mul_le_mul_right hi hS
  rw [← k] at nk
  refine ⟨D, by rw [mul_wrd f g hfk hgk, e], nk, ?_, ?_, ?_⟩
  · clear lo hi lo' hi' nk ab
    generalize nearZ (f.z * g.z) S = K at *
    omega
  · clear lo hi lo' hi' nk ab
    generalize nearZ (f.z * g.z) S = K at *
    omega
  · clear lo hi lo' hi' nk e k zD l1 l2 b1 b2
    generalize m * n * X68 = w at *
    rcases (show f.z * g.z < 0 ∨ 0 < f.z * g.z by omega) with c | c
    · refine ⟨-(w : Int), ?_, by omega, ne⟩
      rw [Int.neg_mul, ← Int.natCast_mul, ← ab]; omega
    · refine ⟨(w : Int), ?_, by omega, ne⟩
      rw [← Int.natCast_mul, ← ab]; omega
set_option maxRecDepth 100000 in
theorem sideF_K {D : F} (pos neg up : Bool) : sideF D pos neg up = sideK D.k pos neg up := by
  have := D.hk
  unfold sideK
  rw [if_neg (by omega), if_neg (by omega), F.of_self]
set_option maxRecDepth 100000 in
theorem sideW_K {w : Nat} {k : Int} (h : Out w k) (hw : badC w = true) (pos neg up : Bool) : sideW w pos neg up = sideK k pos neg up := by
  have z0 : F.zero.b = 0 := by decide
  have zk : F.zero.k = 0 := rfl
  rcases h with ⟨D, rfl, e⟩ | ⟨rfl, e⟩ | ⟨rfl, e⟩ | ⟨rfl, e⟩
  · have hr := right_F D
    rcases badC_or hw with h | h
    · rcases badB_or h with h | h | h <;> (rw [h] at hr; exact absurd hr (by decide +kernel))
    · have hD : D = F.zero := F.b_inj (by rw [h, z0])
      subst hD
      rw [z0, sideW_0, sideF_K, e]
  · rw [sideW_NEG0, sideF_K, zk, e]
  · unfold sideK
    rw [if_pos e, sideW_INF]
  · unfold sideK
    have hT := T_num
    rw [if_neg (by omega), if_pos e, sideW_NINF]
set_option maxRecDepth 100000 in
theorem nz_right {w : Nat} {k : Int} (h : Out w k) : (∃ D : F, w = D.b ∧ D.k = k ∧ D.k ≠ 0 ∧ nzB w = true) ∨ (badC w = true ∧ nzB w = false ∧ (k = 0 ∨ (T : Int) ≤ k ∨ k ≤ -(T : Int)) ∧ ((Nat.beq w INF || Nat.beq w NINF) = true ∨ (Nat.beq w INF || Nat.beq w NINF) = false ∧ (w = NEG0 ∨ w = 0))) := by
  rcases h with ⟨D, rfl, e⟩ | ⟨rfl, e⟩ | ⟨rfl, e⟩ | ⟨rfl, e⟩
  · by_cases hD : D.k = 0
    · right
      have hD' : D = F.zero := F.ext' hD
      subst hD'
      refine ⟨by decide, by decide, .inl ?_, .inr ⟨by decide, .inr (by decide)⟩⟩
      rw [← e]; exact hD
    · left
      refine ⟨D, rfl, e, hD, ?_⟩
      unfold nzB
      rw [right_F, Bool.true_and]
      have : ¬ D.b = 0 := fun h => hD (by rw [F.b_inj (x := D) (y := F.zero) (by rw [h]; decide)]; rfl)
      cases hb : Nat.beq D.b 0
      · rfl
      · exact absurd (Nat.eq_of_beq_eq_true hb) this
  · exact .inr ⟨by decide, by decide, .inl e, .inr ⟨by decide, .inl rfl⟩⟩
  · exact .inr ⟨by decide, by decide, .inr (.inl e), .inl (by decide)⟩
  · exact .inr ⟨by decide, by decide, .inr (.inr e), .inl (by decide)⟩
/-- a word of zero, of either sign -/
theorem read_z {w : Nat} (h : w = NEG0 ∨ w = 0) : ∃ s, double.read w = .number s (man 0) (-1074 + (pl 0 : Int)) := by
  rcases h with rfl | rfl
  · exact ⟨true, read_NEG0⟩
  · have := read_F F.zero
    exact ⟨false, this⟩
theorem fma_z {f g : F} {w : Nat} (h : w = NEG0 ∨ w = 0) (hn : f.z * g.z ≠ 0) : double.fma f.b g.b w = some (wrd (f.z * g.z) S) := by
  obtain ⟨s, hs⟩ := read_z h
  refine fma_gen (read_F f) (read_F g) hs ?_ (fun h => absurd h hn)
  rw [nv_zero, ← z_form, ← z_form]
  simp
theorem fma_z' {f g : F} {w : Nat} (h : w = NEG0 ∨ w = 0) (hn : f.z ≠ 0) : double.fma w g.b f.b = some (wrd (f.z * (S : Int)) S) := by
  obtain ⟨s, hs⟩ := read_z h
  refine fma_gen hs (read_F g) (read_F f) ?_ (fun h => ?_)
  · rw [nv_zero, ← z_form, ← z_form]
    simp
  · have := S_pos
    rcases Int.mul_eq_zero.1 h with h | h
    · exact absurd h hn
    · omega
theorem neg_z {w : Nat} (h : w = NEG0 ∨ w = 0) : Go.Op.negFloat .f64 w = NEG0 ∨ Go.Op.negFloat .f64 w = 0 := by
  rcases h with rfl | rfl
  · right; decide
  · left; decide
theorem mul_ratio {a b f g : F} {ea eb : Int} (fa : Sc f a ea) (fb : Sc g b eb) : a.z * b.z * ((S * 2 ^ (-(ea + eb)).toNat : Nat) : Int) = f.z * g.z * ((2 ^ (ea + eb).toNat : Nat) : Int) * (S : Int) := by
  unfold Sc at fa fb
  have p1 : (0 : Int) < ((2 ^ (-ea).toNat : Nat) : Int) := by have := Nat.two_pow_pos (-ea).toNat; omega
  have p2 : (0 : Int) < ((2 ^ (-eb).toNat : Nat) : Int) := by have := Nat.two_pow_pos (-eb).toNat; omega
  have e : 2 ^ ea.toNat * 2 ^ eb.toNat * 2 ^ (-(ea + eb)).toNat = 2 ^ (-ea).toNat * 2 ^ (-eb).toNat * 2 ^ (ea + eb).toNat := by
    rw [← Nat.pow_add, ← Nat.pow_add, ← Nat.pow_add, ← Nat.pow_add]; congr 1; omega
  have e' : ((2 ^ ea.toNat : Nat) : Int) * ((2 ^ eb.toNat : Nat) : Int) * ((2 ^ (-(ea + eb)).toNat : Nat) : Int) = ((2 ^ (-ea).toNat : Nat) : Int) * ((2 ^ (-eb).toNat : Nat) : Int) * ((2 ^ (ea + eb).toNat : Nat) : Int) := by
    rw [← Int.natCast_mul, ← Int.natCast_mul, ← Int.natCast_mul, ← Int.natCast_mul, e]
  rw [Int.natCast_mul]
  generalize ((2 ^ (-ea).toNat : Nat) : Int) = u at *
  generalize ((2 ^ (-eb).toNat : Nat) : Int) = v at *
  generalize ((2 ^ ea.toNat : Nat) : Int) = u' at *
  generalize ((2 ^ eb.toNat : Nat) : Int) = v' at *
  generalize ((2 ^ (-(ea + eb)).toNat : Nat) : Int) = r at *
  generalize ((2 ^ (ea + eb).toNat : Nat) : Int) = r' at *
  have h : (a.z * b.z * ((S : Int) * r) - f.z * g.z * r' * (S : Int)) * (u * v) = 0 := by grind
  rcases Int.mul_eq_zero.1 h with h | h
  · omega
  · have := Int.mul_pos p1 p2; omega
structure SideR (L : F → Int → Nat) (c0 : F) (n : Int) (x1 x2 : F) (r : Bool → F × Int) : Prop where
  /-- a number, not 0: back again; what is lacking -/
  num : nzB (L c0 n) = true → ∃ D y : F, ∃ d : F, L c0 n = D.b ∧ L D (-n) = y.b ∧ nzB (L D (-n)) = true ∧ y.k ≠ 0 ∧ double.fma x1.b x2.b y.neg.b = some d.b ∧ ∀ up, sideF D (decide (0 < d.k)) (decide (d.k < 0)) up = r up
  /-- any other word -/
  word : nzB (L c0 n) = false → badC (L c0 n) = true ∧ ((Nat.beq (L c0 n) INF || Nat.beq (L c0 n) NINF) = true ∨ (Nat.beq (L c0 n) INF || Nat.beq (L c0 n) NINF) = false ∧ (L c0 n = NEG0 ∨ L c0 n = 0)) ∧ ∀ z, (z = NEG0 ∨ z = 0) → ∃ d : F, double.fma x1.b x2.b z = some d.b ∧ ∀ up, sideW (L c0 n) (decide (0 < d.k)) (decide (d.k < 0)) up = r up
set_option maxRecDepth 100000 in
theorem nz_F {y : F} (h : y.k ≠ 0) : nzB y.b = true := by
  rcases nz_right (w := y.b) (k := y.k) (.inl ⟨y, rfl, rfl⟩) with ⟨_, _, _, _, h⟩ | ⟨_, _, h1, h2⟩
  · exact h
  · exfalso
    have := y.hk
    have := T_num
    rcases h1 with h1 | h1 | h1 <;> omega
set_option maxRecDepth 100000 in
theorem mul_side {a b : F} (ha : a.k ≠ 0) (hb : b.k ≠ 0) : ∃ c0 : F, double.mul (frF a).b (frF b).b = some c0.b ∧ SideR ldW c0 (exF a + exF b) (frF a) (frF b) (fun up => dMul up a b) := by
  obtain ⟨fa, sa, ka, la, ua⟩ := fr_ok ha
  obtain ⟨fb, sb, kb, lb, ub⟩ := fr_ok hb
  obtain ⟨c0, e0, nk0, lo, hi, q, eq, qS, ne⟩ := mul_out fa fb
  have hr := mul_ratio sa sb
  have hS := S_pos
  have big : 2 * P * S ≤ (frF a).z.natAbs * (frF b).z.natAbs := by
    rw [← Int.natAbs_mul, eq, mul_abs]
    apply Nat.mul_le_mul_right
    have := nk0
    -- q is not small
    obtain ⟨m, m1, m2, m3, m4⟩ := fa.z
    obtain ⟨n, n1, n2, n3, n4⟩ := fb.z
    have ab : q.natAbs * S = m * n * X68 * S := by
      rw [← mul_abs, ← eq, Int.natAbs_mul, m4, n4, S_X, X68_f]
      generalize X68 = x
      grind
    have := Nat.eq_of_mul_eq_mul_right hS ab
    rw [this]
    have x0 : 0 < X68 := by
      have := X19_pos; rw [X68_f] at this; omega
    have h1 : 2 * P ≤ m * n := by
      have : P * P ≤ m * n := Nat.mul_le_mul m1 n1
      have : 2 * P ≤ P * P := by decide
      omega
    exact Nat.le_trans h1 (Nat.le_mul_of_pos_right _ x0)
  rw [← Int.natAbs_mul] at big
  have nk := scaled_Nk (x := c0) hS hS hr nk0 big
  have out := ld_out c0 (exF a + exF b)
  have fin : ∀ {y : Int}, y.natAbs ≤ 2 * S → ∃ d : F, wrd ((frF a).z * (frF b).z - y * (S : Int)) S = d.b ∧ (0 < d.k ↔ y * (S : Int) < (frF a).z * (frF b).z) ∧ (d.k < 0 ↔ (frF a).z * (frF b).z < y * (S : Int)) := by
    intro y hy
    obtain ⟨d, d1, d2, d3⟩ := wrd_mult (n := q - y) (g := F4) (by rw [F4_z]; omega) (by rw [F4_z]; omega)
    rw [Int.sub_mul, ← eq] at d1
    refine ⟨d, d1, ?_, ?_⟩
    · rw [d2, eq, lt_scale hS]; omega
    · rw [d3, eq, lt_scale hS]; omega
  refine ⟨c0, e0, ?_, ?_⟩
  · intro hz
    rcases nz_right out with ⟨D, w1, w2, w3, _⟩ | ⟨_, h, _⟩
    · obtain ⟨y, y1, y2, y3⟩ := back_ok' (x := c0) (D := D) (n := exF a + exF b) lo (by omega) w2
      have hsc : Sc D y (-(exF a + exF b)) := by
        unfold Sc
        rw [Int.neg_neg]
        exact y1
      have y0 : y.k ≠ 0 := fun h => by
        have h1 := y3 w3
        rw [(z_zero y).2 h] at h1
        omega
      obtain ⟨d, d1, d2, d3⟩ := fin (y := y.z) (by omega)
      have s := scaled_side hS hS hr y1
      refine ⟨D, y, d, w1, ld_exact hsc, by rw [ld_exact hsc]; exact nz_F y0, y0, ?_, fun up => ?_⟩
      · rw [← negFloat_F y y0, fma_sub ka kb, d1]
      · rw [sideF_K, w2]
        have ez : nvZ (ldK c0 (exF a + exF b)) = D.z := by rw [← w2]; rfl
        refine sideK_ok hS nk (fun _ _ => ?_) (fun _ _ => ?_)
        · rw [decide_eq_true_iff, d2, ez, s.1]
        · rw [decide_eq_true_iff, d3, ez, s.2]
    · rw [h] at hz; cases hz
  · intro hz
    rcases nz_right out with ⟨D, _, _, _, h⟩ | ⟨h1, _, h2, h3⟩
    · rw [h] at hz; cases hz
    · refine ⟨h1, h3, fun z hzz => ?_⟩
      obtain ⟨d, d1, d2, d3⟩ := fin (y := 0) (by omega)
      rw [Int.zero_mul, Int.sub_zero] at d1
      rw [Int.zero_mul] at d2 d3
      refine ⟨d, by rw [fma_z hzz ne, d1], fun up => ?_⟩
      rw [sideW_K out h1]
      have s := scaled_side hS hS hr (D := 0) (y := 0) (by rw [Int.zero_mul, Int.zero_mul])
      rw [Int.zero_mul] at s
      refine sideK_ok hS nk (fun l u => ?_) (fun l u => ?_)
      · have k0 : ldK c0 (exF a + exF b) = 0 := by omega
        rw [k0, nvZ_zero, Int.zero_mul, decide_eq_true_iff, d2]
        exact s.1.symm
      · have k0 : ldK c0 (exF a + exF b) = 0 := by omega
        rw [k0, nvZ_zero, Int.zero_mul, decide_eq_true_iff, d3]
        exact s.2.symm
end Bu
namespace Bu
set_option linter.all false
open Ieee Rx

def sgF (g d : F) : F := if g.k < 0 then d.neg else d
structure DivR (L : F → Int → Nat) (c0 : F) (n : Int) (f g : F) (r : Bool → F × Int) : Prop where
  num : nzB (L c0 n) = true → ∃ D y : F, ∃ d : F, L c0 n = D.b ∧ L D (-n) = y.b ∧ nzB (L D (-n)) = true ∧ y.k ≠ 0 ∧ double.fma y.neg.b g.b f.b = some d.b ∧ ∀ up, sideF D (decide (0 < (sgF g d).k)) (decide ((sgF g d).k < 0)) up = r up
  word : nzB (L c0 n) = false → badC (L c0 n) = true ∧ ((Nat.beq (L c0 n) INF || Nat.beq (L c0 n) NINF) = true ∨ (Nat.beq (L c0 n) INF || Nat.beq (L c0 n) NINF) = false ∧ (L c0 n = NEG0 ∨ L c0 n = 0)) ∧ ∀ z, (z = NEG0 ∨ z = 0) → ∃ d : F, double.fma z g.b f.b = some d.b ∧ d.k ≠ 0 ∧ ∀ up, sideW (L c0 n) (decide (0 < (sgF g d).k)) (decide ((sgF g d).k < 0)) up = r up
theorem sc_sign {f a : F} {n : Int} (h : Sc f a n) : (a.z < 0 ↔ f.z < 0) := by
  have := h.sign
  have := z_sign a; have := z_sign f
  omega
theorem sgA_z (f g : F) : sgA f g = (if g.z < 0 then -1 else 1) * f.z * (S : Int) := by
  unfold sgA
  split
  · rw [Int.neg_mul, Int.neg_mul, Int.one_mul]
  · rw [Int.one_mul]
theorem div_ratio {a b f g : F} {ea eb : Int} (fa : Sc f a ea) (fb : Sc g b eb) : sgA a b * ((g.z.natAbs * 2 ^ (-(ea - eb)).toNat : Nat) : Int) = sgA f g * ((2 ^ (ea - eb).toNat : Nat) : Int) * (b.z.natAbs : Int) := by
  have hs := sc_sign fb
  have fb' := congrArg Int.natAbs fb
  rw [mul_abs, mul_abs] at fb'
  have fb'' : ((b.z.natAbs : Nat) : Int) * ((2 ^ (-eb).toNat : Nat) : Int) = ((g.z.natAbs : Nat) : Int) * ((2 ^ eb.toNat : Nat) : Int) := by rw [← Int.natCast_mul, ← Int.natCast_mul, fb']
  unfold Sc at fa
  have p1 : (0 : Int) < ((2 ^ (-ea).toNat : Nat) : Int) := by have := Nat.two_pow_pos (-ea).toNat; omega
  have p2 : (0 : Int) < ((2 ^ (-eb).toNat : Nat) : Int) := by have := Nat.two_pow_pos (-eb).toNat; omega
  have e : 2 ^ ea.toNat * 2 ^ (-eb).toNat * 2 ^ (-(ea - eb)).toNat = 2 ^ (-ea).toNat * 2 ^ eb.toNat * 2 ^ (ea - eb).toNat := by
    rw [← Nat.pow_add, ← Nat.pow_add, ← Nat.pow_add, ← Nat.pow_add]; congr 1; omega
  have e' : ((2 ^ ea.toNat : Nat) : Int) * ((2 ^ (-eb).toNat : Nat) : Int) * ((2 ^ (-(ea - eb)).toNat : Nat) : Int) = ((2 ^ (-ea).toNat : Nat) : Int) * ((2 ^ eb.toNat : Nat) : Int) * ((2 ^ (ea - eb).toNat : Nat) : Int) := by
    rw [← Int.natCast_mul, ← Int.natCast_mul, ← Int.natCast_mul, ← Int.natCast_mul, e]
  rw [sgA_z, sgA_z, show (if b.z < 0 then (-1 : Int) else 1) = if g.z < 0 then -1 else 1 from by simp only [hs], Int.natCast_mul]
  generalize (if g.z < 0 then (-1 : Int) else 1) = t at *
  clear fb fb' e hs
  generalize ((2 ^ (-ea).toNat : Nat) : Int) = u at *
  generalize ((2 ^ (-eb).toNat : Nat) : Int) = v at *
  generalize ((2 ^ ea.toNat : Nat) : Int) = u' at *
  generalize ((2 ^ eb.toNat : Nat) : Int) = v' at *
  generalize ((2 ^ (-(ea - eb)).toNat : Nat) : Int) = r at *
  generalize ((2 ^ (ea - eb).toNat : Nat) : Int) = r' at *
  generalize (b.z.natAbs : Int) = bb at *
  generalize (g.z.natAbs : Int) = gg at *
  have h : (t * a.z * (S : Int) * (gg * r) - t * f.z * (S : Int) * r' * bb) * (u * v) = 0 := by grind
  rcases Int.mul_eq_zero.1 h with h | h
  · omega
  · have := Int.mul_pos p1 p2; omega
theorem sgF_lt {g d : F} {t u : Int} (hg : g.z ≠ 0) (h1 : 0 < d.k ↔ u < t) (h2 : d.k < 0 ↔ t < u) : (decide (0 < (sgF g d).k) = true ↔ (if g.z < 0 then -1 else 1) * u < (if g.z < 0 then -1 else 1) * t) ∧ (decide ((sgF g d).k < 0) = true ↔ (if g.z < 0 then -1 else 1) * t < (if g.z < 0 then -1 else 1) * u) := by
  have sg := z_sign g
  have en := F.neg_k d
  unfold sgF
  by_cases c : g.z < 0
  · rw [if_pos c, if_pos (sg.1 c)]
    rw [decide_eq_true_iff, decide_eq_true_iff]
    constructor <;> omega
  · rw [if_neg c, if_neg (fun h => c (sg.2 h))]
    rw [decide_eq_true_iff, decide_eq_true_iff]
    constructor <;> omega
@[irreducible] def Q53 : Nat := 2 ^ 53
theorem Q53_eq : Q53 = 2 ^ 53 := by unfold Q53; rfl
theorem S_53 : S = 4 * X19 * Q53 ∧ 2 * P = Q53 ∧ 4 * (2 * P * Q53) ≤ S := by decide +kernel
theorem abs_sg (g : F) : (g.z.natAbs : Int) = (if g.z < 0 then -1 else 1) * g.z := by split <;> omega
theorem div_side {a b : F} (ha : a.k ≠ 0) (hb : b.k ≠ 0) : ∃ c0 : F, double.div (frF a).b (frF b).b = some c0.b ∧ DivR ldW c0 (exF a - exF b) (frF a) (frF b) (fun up => dDiv up a b) := by
  obtain ⟨fa, sa, ka, la, ua⟩ := fr_ok ha
  obtain ⟨fb, sb, kb, lb, ub⟩ := fr_ok hb
  obtain ⟨c0, e0, nk0, lo, hi⟩ := div_frac fa fb
  have hr := div_ratio sa sb
  have hS := S_pos
  have sbz := z_sign b
  have e1 : ∀ up, dDiv up a b = rndR up (sgA a b) b.z.natAbs := fun up => by
    unfold dDiv sgA
    simp only [sbz]
  have hB : 0 < b.z.natAbs := by have : b.z ≠ 0 := fun h => hb ((z_zero b).1 h); omega
  have hg0 : (frF b).z ≠ 0 := fun h => kb ((z_zero _).1 h)
  have hf0 : (frF a).z ≠ 0 := fun h => ka ((z_zero _).1 h)
  have hB0 : 0 < (frF b).z.natAbs := by omega
  obtain ⟨m, m1, m2, m3, m4⟩ := fa.z
  obtain ⟨n, n1, n2, n3, n4⟩ := fb.z
  obtain ⟨s53, p53, s106⟩ := S_53
  have hX := X19_pos
  have hP := P_pos
  -- A0 against B0
  have absA : (sgA (frF a) (frF b)).natAbs = (frF a).z.natAbs * S := by
    unfold sgA
    split
    · rw [Int.natAbs_neg, mul_abs]
    · rw [mul_abs]
  have big : 2 * P * (frF b).z.natAbs ≤ (sgA (frF a) (frF b)).natAbs := by
    rw [absA, Nat.mul_comm (frF a).z.natAbs]
    have h1 : (frF b).z.natAbs ≤ 2 * (frF a).z.natAbs := by
      rw [m4, n4]
      have : n * (4 * X19) ≤ 2 * m * (4 * X19) := Nat.mul_le_mul_right _ (by omega)
      rw [Nat.mul_assoc 2] at this
      exact this
    have h2 : 2 * P * (frF b).z.natAbs ≤ 2 * P * (2 * (frF a).z.natAbs) := Nat.mul_le_mul_left _ h1
    have h3 : 4 * (2 * P) * (frF a).z.natAbs ≤ S * (frF a).z.natAbs := Nat.mul_le_mul_right _ S_P
    have h4 : 2 * P * (2 * (frF a).z.natAbs) ≤ 4 * (2 * P) * (frF a).z.natAbs := by
      rw [← Nat.mul_assoc]
      exact Nat.mul_le_mul_right _ (by omega)
    exact Nat.le_trans h2 (Nat.le_trans h4 h3)
  have nk := scaled_Nk (x := c0) hB hB0 hr nk0 big
  have out := ld_out c0 (exF a - exF b)
  have gS : (frF b).z.natAbs < S := by
    rw [n4, s53]
    have : n * (4 * X19) < 2 * P * (4 * X19) := Nat.mul_lt_mul_of_pos_right n2 (by omega)
    have e : 2 * P * (4 * X19) = 4 * X19 * Q53 := by rw [Nat.mul_comm, p53]
    rw [← e]; exact this
  have fS : (frF a).z.natAbs < S := by
    rw [m4, s53]
    have : m * (4 * X19) < 2 * P * (4 * X19) := Nat.mul_lt_mul_of_pos_right m2 (by omega)
    have e : 2 * P * (4 * X19) = 4 * X19 * Q53 := by rw [Nat.mul_comm, p53]
    rw [← e]; exact this
  -- what is lacking is a whole number of S
  have fin : ∀ {y : F}, (y.k = 0 ∨ S ≤ 4 * y.z.natAbs) → y.z.natAbs ≤ 4 * S → ∃ d : F, wrd ((frF a).z * (S : Int) - y.z * (frF b).z) S = d.b ∧ (0 < d.k ↔ y.z * (frF b).z < (frF a).z * (S : Int)) ∧ (d.k < 0 ↔ (frF a).z * (S : Int) < y.z * (frF b).z) := by
    intro y hy hy2
    obtain ⟨q, hq, hq2⟩ : ∃ q : Int, y.z * (frF b).z = q * (S : Int) ∧ q.natAbs ≤ 4 * S := by
      rcases hy with hy | hy
      · exact ⟨0, by rw [(z_zero y).2 hy, Int.zero_mul, Int.zero_mul], by omega⟩
      · obtain ⟨u, eu⟩ := rep_coarse (rep_F y) (i := 53) (by
          rw [← Q53_eq]; exact Nat.le_of_mul_le_mul_left (Nat.le_trans s106 hy) (by decide))
        rw [← Q53_eq] at eu
        obtain ⟨v, ev⟩ : ∃ v : Int, (frF b).z = v * ((4 * X19 : Nat) : Int) := by
          rcases (show (frF b).z < 0 ∨ 0 ≤ (frF b).z by omega) with c | c
          · exact ⟨-(n : Int), by rw [Int.neg_mul, ← Int.natCast_mul, ← n4]; omega⟩
          · exact ⟨(n : Int), by rw [← Int.natCast_mul, ← n4]; omega⟩
        have eS : (S : Int) = ((4 * X19 : Nat) : Int) * (Q53 : Int) := by rw [s53, Int.natCast_mul]
        have key : y.z * (frF b).z = u * v * (S : Int) := by
          rw [eu, ev, eS]
          generalize ((4 * X19 : Nat) : Int) = x
          grind
        refine ⟨u * v, key, ?_⟩
        have h1 := congrArg Int.natAbs key
        rw [Int.natAbs_mul, mul_abs] at h1
        have h2 : y.z.natAbs * (frF b).z.natAbs ≤ 4 * S * S := Nat.mul_le_mul hy2 (by omega)
        exact Nat.le_of_mul_le_mul_right (by rw [← h1]; exact h2) hS
    obtain ⟨d, d1, d2, d3⟩ := wrd_mult (n := (frF a).z - q) (g := F8) (by rw [F8_z]; omega) (by rw [F8_z]; omega)
    rw [Int.sub_mul, ← hq] at d1
    refine ⟨d, d1, ?_, ?_⟩
    · rw [d2, hq, lt_scale hS]; omega
    · rw [d3, hq, lt_scale hS]; omega
  refine ⟨c0, e0, ?_, ?_⟩
  · intro hz
    rcases nz_right out with ⟨D, w1, w2, w3, _⟩ | ⟨_, h, _⟩
    · obtain ⟨y, y1, y2, y3⟩ := back_ok' (x := c0) (D := D) (n := exF a - exF b) (by omega) hi w2
      have hsc : Sc D y (-(exF a - exF b)) := by
        unfold Sc
        rw [Int.neg_neg]
        exact y1
      have y4 := y3 w3
      have y0 : y.k ≠ 0 := fun h => by
        rw [(z_zero y).2 h] at y4
        omega
      obtain ⟨d, d1, d2, d3⟩ := fin (y := y) (.inr (by omega)) (by omega)
      have s := scaled_side hB hB0 hr y1
      obtain ⟨g1, g2⟩ := sgF_lt (g := frF b) hg0 d2 d3
      refine ⟨D, y, d, w1, ld_exact hsc, by rw [ld_exact hsc]; exact nz_F y0, y0, ?_, fun up => ?_⟩
      · rw [← negFloat_F y y0, fma_neg ka kb, d1]
      · rw [sideF_K, w2, e1 up]
        have ez : nvZ (ldK c0 (exF a - exF b)) = D.z := by rw [← w2]; rfl
        have ea : (if (frF b).z < 0 then (-1 : Int) else 1) * ((frF a).z * (S : Int)) = sgA (frF a) (frF b) := by rw [sgA_z, Int.mul_assoc]
        have eb : (if (frF b).z < 0 then (-1 : Int) else 1) * (y.z * (frF b).z) = y.z * ((frF b).z.natAbs : Int) := by rw [abs_sg, Int.mul_left_comm]
        rw [ea, eb] at g1 g2
        refine sideK_ok hB nk (fun _ _ => ?_) (fun _ _ => ?_)
        · rw [g1, ez, s.1]
        · rw [g2, ez, s.2]
    · rw [h] at hz; cases hz
  · intro hz
    rcases nz_right out with ⟨D, _, _, _, h⟩ | ⟨h1, _, h2, h3⟩
    · rw [h] at hz; cases hz
    · refine ⟨h1, h3, fun z hzz => ?_⟩
      obtain ⟨d, d1, d2, d3⟩ := fin (y := F.zero) (.inl rfl) (by
        have z0 : F.zero.z = 0 := (z_zero F.zero).2 rfl
        rw [z0]; exact Nat.zero_le _)
      have z0 : F.zero.z = 0 := (z_zero F.zero).2 rfl
      rw [z0, Int.zero_mul, Int.sub_zero] at d1
      rw [z0, Int.zero_mul] at d2 d3
      have ne : (frF a).z * (S : Int) ≠ 0 := mul_ne hf0 (by omega)
      obtain ⟨g1, g2⟩ := sgF_lt (g := frF b) hg0 d2 d3
      refine ⟨d, by rw [fma_z' hzz hf0, d1], by omega, fun up => ?_⟩
      rw [sideW_K out h1, e1 up]
      have ea : (if (frF b).z < 0 then (-1 : Int) else 1) * ((frF a).z * (S : Int)) = sgA (frF a) (frF b) := by rw [sgA_z, Int.mul_assoc]
      rw [ea, Int.mul_zero] at g1 g2
      have s := scaled_side hB hB0 hr (D := 0) (y := 0) (by rw [Int.zero_mul, Int.zero_mul])
      rw [Int.zero_mul, Int.zero_mul] at s
      refine sideK_ok hB nk (fun l u => ?_) (fun l u => ?_)
      · have k0 : ldK c0 (exF a - exF b) = 0 := by omega
        rw [k0, nvZ_zero, Int.zero_mul, g1]
        exact s.1.symm
      · have k0 : ldK c0 (exF a - exF b) = 0 := by omega
        rw [k0, nvZ_zero, Int.zero_mul, g2]
        exact s.2.symm
end Bu
namespace Go.Proofs.YtmhhopfffeijnaaGreat
set_option linter.all false
open Go.RowKit Bu Rx

def kNear (L : F → Int → Nat) : List SV → Dec → Option (SV × Dec × Obs)
  | [.fl x, n], ds => match intS n with
    | some (.i64, k) => match takeB ds (nzB (L x k)) with
      | some (true, ds', ob) => some (.tup [.fl (toF (L x k)), .fl (toF (L (toF (L x k)) (-k)))], ds', (nzB (L (toF (L x k)) (-k)), true) :: (decide (-6000 ≤ k ∧ k ≤ 6000), true) :: ob)
      | some (false, ds', ob) => match takeB ds' (Nat.beq (L x k) INF || Nat.beq (L x k) NINF) with
        | some (true, ds2, ob2) => some (.tup [.f (L x k), .f 0], ds2, (badC (L x k), true) :: (decide (-6000 ≤ k ∧ k ≤ 6000), true) :: (ob2 ++ ob))
        | some (false, ds2, ob2) => some (.tup [.f (L x k), .f (L x k)], ds2, (badC (L x k), true) :: (decide (-6000 ≤ k ∧ k ≤ 6000), true) :: (ob2 ++ ob))
        | none => none
      | none => none
    | _ => none
  | _, _ => none
def OLn (L : F → Int → Nat) : OracleF := lookO [(166, plainO kInfC), (105, plainO (kLh L))]
theorem oracleLn : OracleOk Tryz.prog (OLn ldW) := .cons infKC.of (.cons lhK.of (.nil _))
def bd6 (k : Int) : Bool × Bool := (decide (-6000 ≤ k ∧ k ≤ 6000), true)
theorem nrRun1 (L : F → Int → Nat) (x : F) (k : Int) : valR ((run Tryz.prog EH (OLn L) 80).1 186 [.fl x, .si .i64 k] [] (some [true, true])) = some (.tup [.fl (toF (L x k)), .fl (toF (L (toF (L x k)) (IntKind.i64.wrap (0 - k))))], some [], [bd6 (IntKind.i64.wrap (0 - k)), (nzB (L (toF (L x k)) (IntKind.i64.wrap (0 - k))), true), (true, true), bd6 k, (nzB (L x k), true)]) := by kernel_rfl
theorem nrRun2 (L : F → Int → Nat) (x : F) (k : Int) : valR ((run Tryz.prog EH (OLn L) 80).1 186 [.fl x, .si .i64 k] [] (some [false, true])) = some (.tup [.f (L x k), .fl F.zero], some [], [(badC (L x k), true), (Nat.beq (L x k) INF || Nat.beq (L x k) NINF, true), bd6 k, (nzB (L x k), false)]) := by kernel_rfl
theorem nrRun3 (L : F → Int → Nat) (x : F) (k : Int) : valR ((run Tryz.prog EH (OLn L) 80).1 186 [.fl x, .si .i64 k] [] (some [false, false])) = some (.tup [.f (L x k), .f (L x k)], some [], [(Nat.beq (L x k) NEG0 || Nat.beq (L x k) 0, true), (badC (L x k), true), (Nat.beq (L x k) INF || Nat.beq (L x k) NINF, false), bd6 k, (nzB (L x k), false)]) := by kernel_rfl
theorem zero_b0 : F.zero.b = 0 := by decide
theorem nearK_of {L : F → Int → Nat} (hO : OracleOk Tryz.prog (OLn L)) : PlainOk Tryz.prog 186 (kNear L) := by
  intro args ds x ds' ob h ho
  unfold kNear at h
  split at h
  · rename_i x n
    split at h
    · rename_i k hk
      have pl : plains [.fl x, n] = some [.float .f64 x.b, .int .i64 k] := plains_cons rfl (plains_cons (intS_plain hk) plains_nil)
      split at h
      · rename_i ds1 ob1 h1
        simp only [Option.some.injEq, Prod.mk.injEq] at h; obtain ⟨rfl, _, rfl⟩ := h
        have o1 := ho _ (List.mem_cons_self ..)
        have o2 := of_decide_eq_true (ho _ (List.mem_cons_of_mem _ (List.mem_cons_self ..)))
        have o3 := (takeB_ok h1 (fun p hp => ho p (List.mem_cons_of_mem _ (List.mem_cons_of_mem _ hp)))).symm
        have ew : IntKind.i64.wrap (0 - k) = -k := by rw [IntKind.wrap_i64]; omega
        refine ⟨_, _, pl, rfl, fun w => ?_⟩
        have hr := nrRun1 L x k
        rw [ew] at hr
        exact calls_of_val goodH hO 80 hr (ObsOk.of_B (obsB_yes (decide_eq_true (by omega)) (obsB_yes o1 (obsB_yes rfl (obsB_yes (decide_eq_true o2) (obsB_yes o3 obsB_nil)))))) rfl rfl w
      · rename_i ds1 ob1 h1
        split at h
        · rename_i ds2 ob2 h2
          simp only [Option.some.injEq, Prod.mk.injEq] at h; obtain ⟨rfl, _, rfl⟩ := h
          have o1 := ho _ (List.mem_cons_self ..)
          have o2 := of_decide_eq_true (ho _ (List.mem_cons_of_mem _ (List.mem_cons_self ..)))
          have o34 : ObsOk (ob2 ++ ob1) := fun p hp => ho p (List.mem_cons_of_mem _ (List.mem_cons_of_mem _ hp))
          have o3 := (takeB_ok h1 o34.right).symm
          have o4 := (takeB_ok h2 o34.left).symm
          refine ⟨_, _, pl, rfl, fun w => ?_⟩
          have := calls_of_val goodH hO 80 (nrRun2 L x k) (ObsOk.of_B (obsB_yes o1 (obsB_yes o4 (obsB_yes (decide_eq_true o2) (obsB_yes o3 obsB_nil))))) rfl rfl w
          rw [zero_b0] at this
          exact this
        · rename_i ds2 ob2 h2
          simp only [Option.some.injEq, Prod.mk.injEq] at h; obtain ⟨rfl, _, rfl⟩ := h
          have o1 := ho _ (List.mem_cons_self ..)
          have o2 := of_decide_eq_true (ho _ (List.mem_cons_of_mem _ (List.mem_cons_self ..)))
          have o34 : ObsOk (ob2 ++ ob1) := fun p hp => ho p (List.mem_cons_of_mem _ (List.mem_cons_of_mem _ hp))
          have o3 := (takeB_ok h1 o34.right).symm
          have o4 := (takeB_ok h2 o34.left).symm
          have o5 : (Nat.beq (L x k) NEG0 || Nat.beq (L x k) 0) = true := by
            unfold badC badB at o1
            rw [Bool.or_eq_false_iff] at o4
            rw [o4.1, o4.2, Bool.false_or, Bool.false_or] at o1
            exact o1
          refine ⟨_, _, pl, rfl, fun w => ?_⟩
          exact calls_of_val goodH hO 80 (nrRun3 L x k) (ObsOk.of_B (obsB_yes o5 (obsB_yes o1 (obsB_yes o4 (obsB_yes (decide_eq_true o2) (obsB_yes o3 obsB_nil)))))) rfl rfl w
        · cases h
      · cases h
    · cases h
  · cases h
theorem nearK : PlainOk Tryz.prog 186 (kNear ldW) := nearK_of oracleLn
def kFrN (fr : F → F) (ex : F → Int) : List SV → Dec → Option (SV × Dec × Obs)
  | [.fl x], ds => some (.tup [.fl (fr x), .si .i64 (ex x)], ds, [(!decide (x.k = 0), true)])
  | _, _ => none
structure Kf where
  fr : F → F
  ex : F → Int
  L : F → Int → Nat
def OMu (K : Kf) : OracleF := lookO [(97, plainO oRight), (185, plainO (kFrN K.fr K.ex)), (186, plainO (kNear K.L)), (188, plainO kSideD)]
def KfR : Kf := ⟨frF, exF, ldW⟩
theorem oracleMu : OracleOk Tryz.prog (OMu KfR) := .cons rRightP.of (.cons frK.of (.cons nearK.of (.cons sideKD.of (.nil _))))
def mN (x y : F) : F := toF ((Ieee.double.mul x.b y.b).getD 0)
def dN (x y : F) : F := toF ((Ieee.double.div x.b y.b).getD 0)
def fW (x y z : Nat) : Nat := (Ieee.double.fma x y z).getD 0
def sdD (D : F) (d : Nat) (up : Bool) : SV := sdS (sideF D (decide (0 < (dF d).k)) (decide ((dF d).k < 0)) up)
def sdW (v d : Nat) (up : Bool) : SV := sdS (sideW v (decide (0 < (dF d).k)) (decide ((dF d).k < 0)) up)
def muEnd (a b : F) (o : Option Nat) : Obs := [(o.isSome, true), (rightB (o.getD 0), true), (!decide (b.k = 0), true), (!decide (a.k = 0), true), (decide (b.k = (toF 0).k), false), (decide (a.k = (toF 0).k), false)]
def mu1 (K : Kf) (c0 : F) (n : Int) (D : F) (x y z : Nat) (r : Obs) : Obs := (rightB (fW x y z) || Nat.beq (fW x y z) NEG0, true) :: ((Ieee.double.fma x y z).isSome, true) :: (!decide ((toF (K.L D (-n))).k = 0), true) :: (nzB (K.L D (-n)), true) :: bd6 n :: (nzB (K.L c0 n), true) :: r
def mu2 (K : Kf) (c0 : F) (n : Int) (x y z : Nat) (i : Bool) (r : Obs) : Obs := (badC (K.L c0 n), true) :: (rightB (fW x y z), true) :: ((Ieee.double.fma x y z).isSome, true) :: (badC (K.L c0 n), true) :: bd6 n :: (Nat.beq (K.L c0 n) INF || Nat.beq (K.L c0 n) NINF, i) :: (nzB (K.L c0 n), false) :: r
def wrp (n : Int) : Int := IntKind.i64.wrap n
theorem muRun1 (K : Kf) (a b : F) (up : Bool) : valR ((run Tryz.prog EH (OMu K) 80).1 134 [.fl a, .fl b, .b up] [] (some [false, false, true])) =
    some (sdD (toF (K.L (mN (K.fr a) (K.fr b)) (wrp (K.ex a + K.ex b)))) (fW (K.fr a).b (K.fr b).b (toF (K.L (toF (K.L (mN (K.fr a) (K.fr b)) (wrp (K.ex a + K.ex b)))) (-(wrp (K.ex a + K.ex b))))).neg.b) up, some [],
      mu1 K (mN (K.fr a) (K.fr b)) (wrp (K.ex a + K.ex b)) (toF (K.L (mN (K.fr a) (K.fr b)) (wrp (K.ex a + K.ex b)))) (K.fr a).b (K.fr b).b (toF (K.L (toF (K.L (mN (K.fr a) (K.fr b)) (wrp (K.ex a + K.ex b)))) (-(wrp (K.ex a + K.ex b))))).neg.b (muEnd a b (Ieee.double.mul (K.fr a).b (K.fr b).b))) := by kernel_rfl
theorem muRun2 (K : Kf) (a b : F) (up : Bool) : valR ((run Tryz.prog EH (OMu K) 80).1 134 [.fl a, .fl b, .b up] [] (some [false, false, false, true])) =
    some (sdW (K.L (mN (K.fr a) (K.fr b)) (wrp (K.ex a + K.ex b))) (fW (K.fr a).b (K.fr b).b NEG0) up, some [],
      mu2 K (mN (K.fr a) (K.fr b)) (wrp (K.ex a + K.ex b)) (K.fr a).b (K.fr b).b NEG0 true (muEnd a b (Ieee.double.mul (K.fr a).b (K.fr b).b))) := by kernel_rfl
theorem muRun3 (K : Kf) (a b : F) (up : Bool) : valR ((run Tryz.prog EH (OMu K) 80).1 134 [.fl a, .fl b, .b up] [] (some [false, false, false, false])) =
    some (sdW (K.L (mN (K.fr a) (K.fr b)) (wrp (K.ex a + K.ex b))) (fW (K.fr a).b (K.fr b).b (Op.negFloat .f64 (K.L (mN (K.fr a) (K.fr b)) (wrp (K.ex a + K.ex b))))) up, some [],
      mu2 K (mN (K.fr a) (K.fr b)) (wrp (K.ex a + K.ex b)) (K.fr a).b (K.fr b).b (Op.negFloat .f64 (K.L (mN (K.fr a) (K.fr b)) (wrp (K.ex a + K.ex b)))) false (muEnd a b (Ieee.double.mul (K.fr a).b (K.fr b).b))) := by kernel_rfl
theorem muRun0 (K : Kf) (a b : F) (up : Bool) : valR ((run Tryz.prog EH (OMu K) 80).1 134 [.fl a, .fl b, .b up] [] (some [true])) = some (.tup [.fl F.zero, .i .i64 0], some [], [(decide (a.k = (toF 0).k), true)]) := by kernel_rfl
theorem muRun0' (K : Kf) (a b : F) (up : Bool) : valR ((run Tryz.prog EH (OMu K) 80).1 134 [.fl a, .fl b, .b up] [] (some [false, true])) = some (.tup [.fl F.zero, .i .i64 0], some [], [(decide (b.k = (toF 0).k), true), (decide (a.k = (toF 0).k), false)]) := by kernel_rfl
end Go.Proofs.YtmhhopfffeijnaaGreat
namespace Go.Proofs.YtmhhopfffeijnaaGreat
set_option linter.all false
open Go.RowKit Bu Rx

def dvS (s : Bool) (w : Nat) : Nat := bif s then Op.negFloat .f64 w else w
def dvEnd (a b : F) (o : Option Nat) : Obs := [(o.isSome, true), (rightB (o.getD 0), true), (!decide (b.k = 0), true), (!decide (a.k = 0), true), (decide (a.k = (toF 0).k), false), (decide (b.k = (toF 0).k), false)]
def dv1 (K : Kf) (c0 : F) (n : Int) (D : F) (x y z : Nat) (g : F) (s : Bool) (r : Obs) : Obs := (rightB (dvS s (fW x y z)) || Nat.beq (dvS s (fW x y z)) NEG0, true) :: (decide (g.k < (toF 0).k), s) :: ((Ieee.double.fma x y z).isSome, true) :: (!decide ((toF (K.L D (-n))).k = 0), true) :: (nzB (K.L D (-n)), true) :: bd6 n :: (nzB (K.L c0 n), true) :: r
def dv2 (K : Kf) (c0 : F) (n : Int) (x y z : Nat) (g : F) (s : Bool) (i : Bool) (r : Obs) : Obs := (badC (K.L c0 n), true) :: (rightB (dvS s (fW x y z)), true) :: (decide (g.k < (toF 0).k), s) :: ((Ieee.double.fma x y z).isSome, true) :: (badC (K.L c0 n), true) :: bd6 n :: (Nat.beq (K.L c0 n) INF || Nat.beq (K.L c0 n) NINF, i) :: (nzB (K.L c0 n), false) :: r
theorem dvRun1 (K : Kf) (a b : F) (up s : Bool) : valR ((run Tryz.prog EH (OMu K) 80).1 190 [.fl a, .fl b, .b up] [] (some [false, false, true, s])) =
    some (sdD (toF (K.L (dN (K.fr a) (K.fr b)) (wrp (K.ex a - K.ex b)))) (dvS s (fW (toF (K.L (toF (K.L (dN (K.fr a) (K.fr b)) (wrp (K.ex a - K.ex b)))) (-(wrp (K.ex a - K.ex b))))).neg.b (K.fr b).b (K.fr a).b)) up, some [],
      dv1 K (dN (K.fr a) (K.fr b)) (wrp (K.ex a - K.ex b)) (toF (K.L (dN (K.fr a) (K.fr b)) (wrp (K.ex a - K.ex b)))) (toF (K.L (toF (K.L (dN (K.fr a) (K.fr b)) (wrp (K.ex a - K.ex b)))) (-(wrp (K.ex a - K.ex b))))).neg.b (K.fr b).b (K.fr a).b (K.fr b) s (dvEnd a b (Ieee.double.div (K.fr a).b (K.fr b).b))) := by cases s <;> kernel_rfl
theorem dvRun2 (K : Kf) (a b : F) (up s : Bool) : valR ((run Tryz.prog EH (OMu K) 80).1 190 [.fl a, .fl b, .b up] [] (some [false, false, false, true, s])) =
    some (sdW (K.L (dN (K.fr a) (K.fr b)) (wrp (K.ex a - K.ex b))) (dvS s (fW NEG0 (K.fr b).b (K.fr a).b)) up, some [],
      dv2 K (dN (K.fr a) (K.fr b)) (wrp (K.ex a - K.ex b)) NEG0 (K.fr b).b (K.fr a).b (K.fr b) s true (dvEnd a b (Ieee.double.div (K.fr a).b (K.fr b).b))) := by cases s <;> kernel_rfl
theorem dvRun3 (K : Kf) (a b : F) (up s : Bool) : valR ((run Tryz.prog EH (OMu K) 80).1 190 [.fl a, .fl b, .b up] [] (some [false, false, false, false, s])) =
    some (sdW (K.L (dN (K.fr a) (K.fr b)) (wrp (K.ex a - K.ex b))) (dvS s (fW (Op.negFloat .f64 (K.L (dN (K.fr a) (K.fr b)) (wrp (K.ex a - K.ex b)))) (K.fr b).b (K.fr a).b)) up, some [],
      dv2 K (dN (K.fr a) (K.fr b)) (wrp (K.ex a - K.ex b)) (Op.negFloat .f64 (K.L (dN (K.fr a) (K.fr b)) (wrp (K.ex a - K.ex b)))) (K.fr b).b (K.fr a).b (K.fr b) s false (dvEnd a b (Ieee.double.div (K.fr a).b (K.fr b).b))) := by cases s <;> kernel_rfl
theorem dvRun0 (K : Kf) (a b : F) (up : Bool) : valR ((run Tryz.prog EH (OMu K) 80).1 190 [.fl a, .fl b, .b up] [] (some [true])) = some (.tup [.fl F.zero, .i .i64 11], some [], [(decide (b.k = (toF 0).k), true)]) := by kernel_rfl
theorem dvRun0' (K : Kf) (a b : F) (up : Bool) : valR ((run Tryz.prog EH (OMu K) 80).1 190 [.fl a, .fl b, .b up] [] (some [false, true])) = some (.tup [.fl F.zero, .i .i64 0], some [], [(decide (a.k = (toF 0).k), true), (decide (b.k = (toF 0).k), false)]) := by kernel_rfl
theorem plain_sdS {r p : F × Int} (h : r = p) : plain (sdS r) = some (.tuple #[.float .f64 p.1.b, .int .i64 p.2]) := by rw [h]; rfl
theorem dF_F (d : F) : dF d.b = d := by unfold dF; rw [right_F, cond_true, toF_F]
theorem fW_F {x y z : Nat} {d : F} (h : Ieee.double.fma x y z = some d.b) : fW x y z = d.b ∧ (Ieee.double.fma x y z).isSome = true := by unfold fW; rw [h]; exact ⟨rfl, rfl⟩
theorem k_ne0 {x : F} (h : x.k ≠ 0) : decide (x.k = (toF 0).k) = false := by rw [zero_k']; exact decide_eq_false h
theorem muEnd_ok {a b c : F} {o : Option Nat} (ha : a.k ≠ 0) (hb : b.k ≠ 0) (h : o = some c.b) : obsB (muEnd a b o) = true := by
  rw [h]
  exact obsB_yes rfl (obsB_yes (right_F c) (obsB_yes (by rw [decide_eq_false hb]; rfl) (obsB_yes (by rw [decide_eq_false ha]; rfl) (obsB_yes (k_ne0 hb) (obsB_yes (k_ne0 ha) obsB_nil)))))
theorem dvEnd_ok {a b c : F} {o : Option Nat} (ha : a.k ≠ 0) (hb : b.k ≠ 0) (h : o = some c.b) : obsB (dvEnd a b o) = true := by
  rw [h]
  exact obsB_yes rfl (obsB_yes (right_F c) (obsB_yes (by rw [decide_eq_false hb]; rfl) (obsB_yes (by rw [decide_eq_false ha]; rfl) (obsB_yes (k_ne0 ha) (obsB_yes (k_ne0 hb) obsB_nil)))))
theorem wrp_eq {n : Int} (h1 : -6000 ≤ n) (h2 : n ≤ 6000) : wrp n = n := by unfold wrp; rw [IntKind.wrap_i64]; omega
theorem rmul_of {K : Kf} (hO : OracleOk Tryz.prog (OMu K)) {a b c0 : F} (ha : a.k ≠ 0) (hb : b.k ≠ 0) (e0 : Ieee.double.mul (K.fr a).b (K.fr b).b = some c0.b) (n1 : -6000 ≤ K.ex a + K.ex b) (n2 : K.ex a + K.ex b ≤ 6000) {r : Bool → F × Int} (h : SideR K.L c0 (K.ex a + K.ex b) (K.fr a) (K.fr b) r) (up : Bool) (w : World) :
    Calls Tryz.prog 134 #[.float .f64 a.b, .float .f64 b.b, .bool up] w fun e w' => e = .returned (.tuple #[.float .f64 (r up).1.b, .int .i64 (r up).2]) ∧ Below w.heap.size w w' := by
  have em : mN (K.fr a) (K.fr b) = c0 := by unfold mN; rw [e0]; exact toF_F c0
  have en := wrp_eq n1 n2
  have hend := muEnd_ok ha hb e0
  have hb6 : (bd6 (K.ex a + K.ex b)).1 = true := decide_eq_true ⟨n1, n2⟩
  cases hz : nzB (K.L c0 (K.ex a + K.ex b))
  · obtain ⟨h1, h2, h3⟩ := h.word hz
    rcases h2 with hi | ⟨hi, hw⟩
    · obtain ⟨d, d1, d2⟩ := h3 NEG0 (.inl rfl)
      obtain ⟨f1, f2⟩ := fW_F d1
      have hr := muRun2 K a b up
      unfold mu2 at hr
      rw [em, en, f1] at hr
      refine calls_of_val goodH hO 80 hr (ObsOk.of_B (obsB_yes h1 (obsB_yes (right_F d) (obsB_yes f2 (obsB_yes h1 (obsB_yes hb6 (obsB_yes hi (obsB_yes hz hend)))))))) rfl (plain_sdS (by rw [dF_F]; exact d2 up)) w
    · obtain ⟨d, d1, d2⟩ := h3 _ (neg_z hw)
      obtain ⟨f1, f2⟩ := fW_F d1
      have hr := muRun3 K a b up
      unfold mu2 at hr
      rw [em, en, f1] at hr
      refine calls_of_val goodH hO 80 hr (ObsOk.of_B (obsB_yes h1 (obsB_yes (right_F d) (obsB_yes f2 (obsB_yes h1 (obsB_yes hb6 (obsB_yes hi (obsB_yes hz hend)))))))) rfl (plain_sdS (by rw [dF_F]; exact d2 up)) w
  · obtain ⟨D, y, d, h1, h2, h3, h4, h5, h6⟩ := h.num hz
    obtain ⟨f1, f2⟩ := fW_F h5
    have eD : toF (K.L c0 (K.ex a + K.ex b)) = D := by rw [h1]; exact toF_F D
    have ey : toF (K.L D (-(K.ex a + K.ex b))) = y := by rw [h2]; exact toF_F y
    have hr := muRun1 K a b up
    unfold mu1 at hr
    rw [em, en, eD, ey, f1] at hr
    refine calls_of_val goodH hO 80 hr (ObsOk.of_B (obsB_yes (by rw [right_F, Bool.true_or]) (obsB_yes f2 (obsB_yes (by rw [decide_eq_false h4]; rfl) (obsB_yes h3 (obsB_yes hb6 (obsB_yes hz hend))))))) rfl (plain_sdS (by rw [dF_F]; exact h6 up)) w
theorem rndR_zero (up : Bool) {B : Nat} (hB : 0 < B) : rndR up 0 B = (F.zero, 0) := by
  have nk : Nk F.zero.k 0 B := by
    constructor
    · intro j h
      apply Int.not_lt.1
      intro c
      have h1 : nvZ j < nvZ 0 := nvZ_lt c
      rw [nvZ_zero] at h1
      have := neg_pos_mul h1 (show (0 : Int) < (B : Int) by omega)
      omega
    · intro j h
      apply Int.not_lt.1
      intro c
      have h1 : nvZ 0 < nvZ j := nvZ_lt c
      rw [nvZ_zero] at h1
      have := Int.mul_pos h1 (show (0 : Int) < (B : Int) by omega)
      omega
  have z0 : F.zero.z = 0 := (z_zero F.zero).2 rfl
  have := side_ok (c := F.zero) (pos := false) (neg := false) (up := up) hB nk (by rw [z0, Int.zero_mul]; simp) (by rw [z0, Int.zero_mul]; simp)
  rw [← this]
  cases up <;> rfl
theorem rmul_w (a b : F) (up : Bool) (w : World) : Calls Tryz.prog 134 #[.float .f64 a.b, .float .f64 b.b, .bool up] w fun e w' => e = .returned (.tuple #[.float .f64 (dMul up a b).1.b, .int .i64 (dMul up a b).2]) ∧ Below w.heap.size w w' := by
  by_cases ha : a.k = 0
  · have e : dMul up a b = (F.zero, 0) := by unfold dMul; rw [(z_zero a).2 ha, Int.zero_mul]; exact rndR_zero up S_pos
    rw [e]
    exact calls_of_val goodH oracleMu 80 (muRun0 KfR a b up) (ObsOk.of_B (obsB_yes (decide_eq_true (by rw [zero_k']; exact ha)) obsB_nil)) rfl rfl w
  · by_cases hb : b.k = 0
    · have e : dMul up a b = (F.zero, 0) := by unfold dMul; rw [(z_zero b).2 hb, Int.mul_zero]; exact rndR_zero up S_pos
      rw [e]
      exact calls_of_val goodH oracleMu 80 (muRun0' KfR a b up) (ObsOk.of_B (obsB_yes (decide_eq_true (by rw [zero_k']; exact hb)) (obsB_yes (k_ne0 ha) obsB_nil))) rfl rfl w
    · obtain ⟨c0, e0, h⟩ := mul_side ha hb
      obtain ⟨_, _, _, a1, a2⟩ := fr_ok ha
      obtain ⟨_, _, _, b1, b2⟩ := fr_ok hb
      exact rmul_of (K := KfR) oracleMu ha hb e0 (show -6000 ≤ exF a + exF b by omega) (show exF a + exF b ≤ 6000 by omega) h up w
theorem rmulG : PlainOk Tryz.prog 134 (kTwo dMul) := two_ok rmul_w
theorem dvS_F {g d : F} {s : Bool} (hs : decide (g.k < (toF 0).k) = s) : dF (dvS s d.b) = sgF g d ∧ (rightB (dvS s d.b) || Nat.beq (dvS s d.b) NEG0) = true ∧ (d.k ≠ 0 → rightB (dvS s d.b) = true) := by
  rw [zero_k'] at hs
  unfold sgF
  cases s
  · rw [if_neg (of_decide_eq_false hs)]
    exact ⟨dF_F d, by show (rightB d.b || _) = true; rw [right_F, Bool.true_or], fun _ => right_F d⟩
  · rw [if_pos (of_decide_eq_true hs)]
    have e : dvS true d.b = Op.negFloat .f64 d.b := rfl
    rw [e]
    by_cases hd : d.k = 0
    · have : d = F.zero := F.ext' hd
      subst this
      refine ⟨?_, by decide, fun h => absurd hd h⟩
      have e1 : Op.negFloat .f64 F.zero.b = NEG0 := by decide
      rw [e1, dF_NEG0]
      exact F.ext' (by decide)
    · rw [negFloat_F d hd]
      exact ⟨dF_F _, by rw [right_F, Bool.true_or], fun _ => right_F _⟩
theorem rdiv_of {K : Kf} (hO : OracleOk Tryz.prog (OMu K)) {a b c0 : F} (ha : a.k ≠ 0) (hb : b.k ≠ 0) (e0 : Ieee.double.div (K.fr a).b (K.fr b).b = some c0.b) (n1 : -6000 ≤ K.ex a - K.ex b) (n2 : K.ex a - K.ex b ≤ 6000) {r : Bool → F × Int} (h : DivR K.L c0 (K.ex a - K.ex b) (K.fr a) (K.fr b) r) (up : Bool) (w : World) :
    Calls Tryz.prog 190 #[.float .f64 a.b, .float .f64 b.b, .bool up] w fun e w' => e = .returned (.tuple #[.float .f64 (r up).1.b, .int .i64 (r up).2]) ∧ Below w.heap.size w w' := by
  have em : dN (K.fr a) (K.fr b) = c0 := by unfold dN; rw [e0]; exact toF_F c0
  have en := wrp_eq n1 n2
  have hend := dvEnd_ok ha hb e0
  have hb6 : (bd6 (K.ex a - K.ex b)).1 = true := decide_eq_true ⟨n1, n2⟩
  obtain ⟨s, hs⟩ : ∃ s, decide ((K.fr b).k < (toF 0).k) = s := ⟨_, rfl⟩
  cases hz : nzB (K.L c0 (K.ex a - K.ex b))
  · obtain ⟨h1, h2, h3⟩ := h.word hz
    rcases h2 with hi | ⟨hi, hw⟩
    · obtain ⟨d, d1, d0, d2⟩ := h3 NEG0 (.inl rfl)
      obtain ⟨f1, f2⟩ := fW_F d1
      obtain ⟨g1, g2, g3⟩ := dvS_F (d := d) hs
      have hr := dvRun2 K a b up s
      unfold dv2 at hr
      rw [em, en, f1] at hr
      refine calls_of_val goodH hO 80 hr (ObsOk.of_B (obsB_yes h1 (obsB_yes (g3 d0) (obsB_yes hs (obsB_yes f2 (obsB_yes h1 (obsB_yes hb6 (obsB_yes hi (obsB_yes hz hend))))))))) rfl (plain_sdS (by rw [g1]; exact d2 up)) w
    · obtain ⟨d, d1, d0, d2⟩ := h3 _ (neg_z hw)
      obtain ⟨f1, f2⟩ := fW_F d1
      obtain ⟨g1, g2, g3⟩ := dvS_F (d := d) hs
      have hr := dvRun3 K a b up s
      unfold dv2 at hr
      rw [em, en, f1] at hr
      refine calls_of_val goodH hO 80 hr (ObsOk.of_B (obsB_yes h1 (obsB_yes (g3 d0) (obsB_yes hs (obsB_yes f2 (obsB_yes h1 (obsB_yes hb6 (obsB_yes hi (obsB_yes hz hend))))))))) rfl (plain_sdS (by rw [g1]; exact d2 up)) w
  · obtain ⟨D, y, d, h1, h2, h3, h4, h5, h6⟩ := h.num hz
    obtain ⟨f1, f2⟩ := fW_F h5
    obtain ⟨g1, g2, g3⟩ := dvS_F (d := d) hs
    have eD : toF (K.L c0 (K.ex a - K.ex b)) = D := by rw [h1]; exact toF_F D
    have ey : toF (K.L D (-(K.ex a - K.ex b))) = y := by rw [h2]; exact toF_F y
    have hr := dvRun1 K a b up s
    unfold dv1 at hr
    rw [em, en, eD, ey, f1] at hr
    refine calls_of_val goodH hO 80 hr (ObsOk.of_B (obsB_yes g2 (obsB_yes hs (obsB_yes f2 (obsB_yes (by rw [decide_eq_false h4]; rfl) (obsB_yes h3 (obsB_yes hb6 (obsB_yes hz hend)))))))) rfl (plain_sdS (by rw [g1]; exact h6 up)) w
theorem rdiv_w (a b : F) (up : Bool) (w : World) : Calls Tryz.prog 190 #[.float .f64 a.b, .float .f64 b.b, .bool up] w fun e w' => e = .returned (.tuple #[.float .f64 (pDiv up a b).1.b, .int .i64 (pDiv up a b).2]) ∧ Below w.heap.size w w' := by
  by_cases hb : b.k = 0
  · have e : pDiv up a b = (F.zero, 11) := by unfold pDiv; rw [if_pos hb]
    rw [e]
    exact calls_of_val goodH oracleMu 80 (dvRun0 KfR a b up) (ObsOk.of_B (obsB_yes (decide_eq_true (by rw [zero_k']; exact hb)) obsB_nil)) rfl rfl w
  · have ep : pDiv up a b = dDiv up a b := by unfold pDiv; rw [if_neg hb]
    rw [ep]
    by_cases ha : a.k = 0
    · have e : dDiv up a b = (F.zero, 0) := by
        have h0 : 0 < b.z.natAbs := by have : b.z ≠ 0 := fun h => hb ((z_zero b).1 h); omega
        unfold dDiv
        rw [(z_zero a).2 ha, Int.zero_mul, Int.neg_zero, show (if b.k < 0 then (0 : Int) else 0) = 0 from by split <;> rfl]
        exact rndR_zero up h0
      rw [e]
      exact calls_of_val goodH oracleMu 80 (dvRun0' KfR a b up) (ObsOk.of_B (obsB_yes (decide_eq_true (by rw [zero_k']; exact ha)) (obsB_yes (k_ne0 hb) obsB_nil))) rfl rfl w
    · obtain ⟨c0, e0, h⟩ := div_side ha hb
      obtain ⟨_, _, _, a1, a2⟩ := fr_ok ha
      obtain ⟨_, _, _, b1, b2⟩ := fr_ok hb
      exact rdiv_of (K := KfR) oracleMu ha hb e0 (show -6000 ≤ exF a - exF b by omega) (show exF a - exF b ≤ 6000 by omega) h up w
theorem rdivG : PlainOk Tryz.prog 190 (kTwo pDiv) := two_ok rdiv_w
end Go.Proofs.YtmhhopfffeijnaaGreat
