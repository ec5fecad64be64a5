/- Quotients, as the document tells them. -/
import Derived.Test.YtmhhopfffeijnaaGreatNn
namespace Bu
set_option linter.all false
open Ieee Rx

def sgF (g d : F) : F := if g.k < 0 then d.neg else d
structure DivR (L : F → Int → Nat) (c0 : F) (n : Int) (f g : F) (r : Bool → F × Int) : Prop where
  num : nzB (L c0 n) = true → ∃ D y : F, ∃ d : F, L c0 n = D.b ∧ L D (-n) = y.b ∧ nzB (L D (-n)) = true ∧ y.k ≠ 0 ∧ double.fma y.neg.b g.b f.b = some d.b ∧ ∀ up, sideF D (decide (0 < (sgF g d).k)) (decide ((sgF g d).k < 0)) up = r up
  word : nzB (L c0 n) = false → badC (L c0 n) = true ∧ ((Nat.beq (L c0 n) INF || Nat.beq (L c0 n) NINF) = true ∨ (Nat.beq (L c0 n) INF || Nat.beq (L c0 n) NINF) = false ∧ (L c0 n = NEG0 ∨ L c0 n = 0)) ∧ ∀ z, (z = NEG0 ∨ z = 0) → ∃ d : F, double.fma z g.b f.b = some d.b ∧ d.k ≠ 0 ∧ ∀ up, sideW (L c0 n) (decide (0 < (sgF g d).k)) (decide ((sgF g d).k < 0)) up = r up
theorem sc_sign {f a : F} {n : Int} (h : Sc f a n) : (a.z < 0 ↔ f.z < 0) := by
  have := h.sign
  have := z_sign a; have := z_sign f
  omega
theorem sgA_z (f g : F) : sgA f g = (if g.z < 0 then -1 else 1) * f.z * (S : Int) := by
  unfold sgA
  split
  · rw [Int.neg_mul, Int.neg_mul, Int.one_mul]
  · rw [Int.one_mul]
theorem div_ratio {a b f g : F} {ea eb : Int} (fa : Sc f a ea) (fb : Sc g b eb) : sgA a b * ((g.z.natAbs * 2 ^ (-(ea - eb)).toNat : Nat) : Int) = sgA f g * ((2 ^ (ea - eb).toNat : Nat) : Int) * (b.z.natAbs : Int) := by
  have hs := sc_sign fb
  have fb' := congrArg Int.natAbs fb
  rw [mul_abs, mul_abs] at fb'
  have fb'' : ((b.z.natAbs : Nat) : Int) * ((2 ^ (-eb).toNat : Nat) : Int) = ((g.z.natAbs : Nat) : Int) * ((2 ^ eb.toNat : Nat) : Int) := by rw [← Int.natCast_mul, ← Int.natCast_mul, fb']
  unfold Sc at fa
  have p1 : (0 : Int) < ((2 ^ (-ea).toNat : Nat) : Int) := by have := Nat.two_pow_pos (-ea).toNat; omega
  have p2 : (0 : Int) < ((2 ^ (-eb).toNat : Nat) : Int) := by have := Nat.two_pow_pos (-eb).toNat; omega
  have e : 2 ^ ea.toNat * 2 ^ (-eb).toNat * 2 ^ (-(ea - eb)).toNat = 2 ^ (-ea).toNat * 2 ^ eb.toNat * 2 ^ (ea - eb).toNat := by
    rw [← Nat.pow_add, ← Nat.pow_add, ← Nat.pow_add, ← Nat.pow_add]; congr 1; omega
  have e' : ((2 ^ ea.toNat : Nat) : Int) * ((2 ^ (-eb).toNat : Nat) : Int) * ((2 ^ (-(ea - eb)).toNat : Nat) : Int) = ((2 ^ (-ea).toNat : Nat) : Int) * ((2 ^ eb.toNat : Nat) : Int) * ((2 ^ (ea - eb).toNat : Nat) : Int) := by
    rw [← Int.natCast_mul, ← Int.natCast_mul, ← Int.natCast_mul, ← Int.natCast_mul, e]
  rw [sgA_z, sgA_z, show (if b.z < 0 then (-1 : Int) else 1) = if g.z < 0 then -1 else 1 from by simp only [hs], Int.natCast_mul]
  generalize (if g.z < 0 then (-1 : Int) else 1) = t at *
  clear fb fb' e hs
  generalize ((2 ^ (-ea).toNat : Nat) : Int) = u at *
  generalize ((2 ^ (-eb).toNat : Nat) : Int) = v at *
  generalize ((2 ^ ea.toNat : Nat) : Int) = u' at *
  generalize ((2 ^ eb.toNat : Nat) : Int) = v' at *
  generalize ((2 ^ (-(ea - eb)).toNat : Nat) : Int) = r at *
  generalize ((2 ^ (ea - eb).toNat : Nat) : Int) = r' at *
  generalize (b.z.natAbs : Int) = bb at *
  generalize (g.z.natAbs : Int) = gg at *
  have h : (t * a.z * (S : Int) * (gg * r) - t * f.z * (S : Int) * r' * bb) * (u * v) = 0 := by grind
  rcases Int.mul_eq_zero.1 h with h | h
  · omega
  · have := Int.mul_pos p1 p2; omega
theorem sgF_lt {g d : F} {t u : Int} (hg : g.z ≠ 0) (h1 : 0 < d.k ↔ u < t) (h2 : d.k < 0 ↔ t < u) : (decide (0 < (sgF g d).k) = true ↔ (if g.z < 0 then -1 else 1) * u < (if g.z < 0 then -1 else 1) * t) ∧ (decide ((sgF g d).k < 0) = true ↔ (if g.z < 0 then -1 else 1) * t < (if g.z < 0 then -1 else 1) * u) := by
  have sg := z_sign g
  have en := F.neg_k d
  unfold sgF
  by_cases c : g.z < 0
  · rw [if_pos c, if_pos (sg.1 c)]
    rw [decide_eq_true_iff, decide_eq_true_iff]
    constructor <;> omega
  · rw [if_neg c, if_neg (fun h => c (sg.2 h))]
    rw [decide_eq_true_iff, decide_eq_true_iff]
    constructor <;> omega
@[irreducible] def Q53 : Nat := 2 ^ 53
theorem Q53_eq : Q53 = 2 ^ 53 := by unfold Q53; rfl
theorem S_53 : S = 4 * X19 * Q53 ∧ 2 * P = Q53 ∧ 4 * (2 * P * Q53) ≤ S := by decide +kernel
theorem abs_sg (g : F) : (g.z.natAbs : Int) = (if g.z < 0 then -1 else 1) * g.z := by split <;> omega
theorem div_side {a b : F} (ha : a.k ≠ 0) (hb : b.k ≠ 0) : ∃ c0 : F, double.div (frF a).b (frF b).b = some c0.b ∧ DivR ldW c0 (exF a - exF b) (frF a) (frF b) (fun up => dDiv up a b) := by
  obtain ⟨fa, sa, ka, la, ua⟩ := fr_ok ha
  obtain ⟨fb, sb, kb, lb, ub⟩ := fr_ok hb
  obtain ⟨c0, e0, nk0, lo, hi⟩ := div_frac fa fb
  have hr := div_ratio sa sb
  have hS := S_pos
  have sbz := z_sign b
  have e1 : ∀ up, dDiv up a b = rndR up (sgA a b) b.z.natAbs := fun up => by
    unfold dDiv sgA
    simp only [sbz]
  have hB : 0 < b.z.natAbs := by have : b.z ≠ 0 := fun h => hb ((z_zero b).1 h); omega
  have hg0 : (frF b).z ≠ 0 := fun h => kb ((z_zero _).1 h)
  have hf0 : (frF a).z ≠ 0 := fun h => ka ((z_zero _).1 h)
  have hB0 : 0 < (frF b).z.natAbs := by omega
  obtain ⟨m, m1, m2, m3, m4⟩ := fa.z
  obtain ⟨n, n1, n2, n3, n4⟩ := fb.z
  obtain ⟨s53, p53, s106⟩ := S_53
  have hX := X19_pos
  have hP := P_pos
  -- A0 against B0
  have absA : (sgA (frF a) (frF b)).natAbs = (frF a).z.natAbs * S := by
    unfold sgA
    split
    · rw [Int.natAbs_neg, mul_abs]
    · rw [mul_abs]
  have big : 2 * P * (frF b).z.natAbs ≤ (sgA (frF a) (frF b)).natAbs := by
    rw [absA, Nat.mul_comm (frF a).z.natAbs]
    have h1 : (frF b).z.natAbs ≤ 2 * (frF a).z.natAbs := by
      rw [m4, n4]
      have : n * (4 * X19) ≤ 2 * m * (4 * X19) := Nat.mul_le_mul_right _ (by omega)
      rw [Nat.mul_assoc 2] at this
      exact this
    have h2 : 2 * P * (frF b).z.natAbs ≤ 2 * P * (2 * (frF a).z.natAbs) := Nat.mul_le_mul_left _ h1
    have h3 : 4 * (2 * P) * (frF a).z.natAbs ≤ S * (frF a).z.natAbs := Nat.mul_le_mul_right _ S_P
    have h4 : 2 * P * (2 * (frF a).z.natAbs) ≤ 4 * (2 * P) * (frF a).z.natAbs := by
      rw [← Nat.mul_assoc]
      exact Nat.mul_le_mul_right _ (by omega)
    exact Nat.le_trans h2 (Nat.le_trans h4 h3)
  have nk := scaled_Nk (x := c0) hB hB0 hr nk0 big
  have out := ld_out c0 (exF a - exF b)
  have gS : (frF b).z.natAbs < S := by
    rw [n4, s53]
    have : n * (4 * X19) < 2 * P * (4 * X19) := Nat.mul_lt_mul_of_pos_right n2 (by omega)
    have e : 2 * P * (4 * X19) = 4 * X19 * Q53 := by rw [Nat.mul_comm, p53]
    rw [← e]; exact this
  have fS : (frF a).z.natAbs < S := by
    rw [m4, s53]
    have : m * (4 * X19) < 2 * P * (4 * X19) := Nat.mul_lt_mul_of_pos_right m2 (by omega)
    have e : 2 * P * (4 * X19) = 4 * X19 * Q53 := by rw [Nat.mul_comm, p53]
    rw [← e]; exact this
  -- what is lacking is a whole number of S
  have fin : ∀ {y : F}, (y.k = 0 ∨ S ≤ 4 * y.z.natAbs) → y.z.natAbs ≤ 4 * S → ∃ d : F, wrd ((frF a).z * (S : Int) - y.z * (frF b).z) S = d.b ∧ (0 < d.k ↔ y.z * (frF b).z < (frF a).z * (S : Int)) ∧ (d.k < 0 ↔ (frF a).z * (S : Int) < y.z * (frF b).z) := by
    intro y hy hy2
    obtain ⟨q, hq, hq2⟩ : ∃ q : Int, y.z * (frF b).z = q * (S : Int) ∧ q.natAbs ≤ 4 * S := by
      rcases hy with hy | hy
      · exact ⟨0, by rw [(z_zero y).2 hy, Int.zero_mul, Int.zero_mul], by omega⟩
      · obtain ⟨u, eu⟩ := rep_coarse (rep_F y) (i := 53) (by
          rw [← Q53_eq]; exact Nat.le_of_mul_le_mul_left (Nat.le_trans s106 hy) (by decide))
        rw [← Q53_eq] at eu
        obtain ⟨v, ev⟩ : ∃ v : Int, (frF b).z = v * ((4 * X19 : Nat) : Int) := by
          rcases (show (frF b).z < 0 ∨ 0 ≤ (frF b).z by omega) with c | c
          · exact ⟨-(n : Int), by rw [Int.neg_mul, ← Int.natCast_mul, ← n4]; omega⟩
          · exact ⟨(n : Int), by rw [← Int.natCast_mul, ← n4]; omega⟩
        have eS : (S : Int) = ((4 * X19 : Nat) : Int) * (Q53 : Int) := by rw [s53, Int.natCast_mul]
        have key : y.z * (frF b).z = u * v * (S : Int) := by
          rw [eu, ev, eS]
          generalize ((4 * X19 : Nat) : Int) = x
          grind
        refine ⟨u * v, key, ?_⟩
        have h1 := congrArg Int.natAbs key
        rw [Int.natAbs_mul, mul_abs] at h1
        have h2 : y.z.natAbs * (frF b).z.natAbs ≤ 4 * S * S := Nat.mul_le_mul hy2 (by omega)
        exact Nat.le_of_mul_le_mul_right (by rw [← h1]; exact h2) hS
    obtain ⟨d, d1, d2, d3⟩ := wrd_mult (n := (frF a).z - q) (g := F8) (by rw [F8_z]; omega) (by rw [F8_z]; omega)
    rw [Int.sub_mul, ← hq] at d1
    refine ⟨d, d1, ?_, ?_⟩
    · rw [d2, hq, lt_scale hS]; omega
    · rw [d3, hq, lt_scale hS]; omega
  refine ⟨c0, e0, ?_, ?_⟩
  · intro hz
    rcases nz_right out with ⟨D, w1, w2, w3, _⟩ | ⟨_, h, _⟩
    · obtain ⟨y, y1, y2, y3⟩ := back_ok' (x := c0) (D := D) (n := exF a - exF b) (by omega) hi w2
      have hsc : Sc D y (-(exF a - exF b)) := by
        unfold Sc
        rw [Int.neg_neg]
        exact y1
      have y4 := y3 w3
      have y0 : y.k ≠ 0 := fun h => by
        rw [(z_zero y).2 h] at y4
        omega
      obtain ⟨d, d1, d2, d3⟩ := fin (y := y) (.inr (by omega)) (by omega)
      have s := scaled_side hB hB0 hr y1
      obtain ⟨g1, g2⟩ := sgF_lt (g := frF b) hg0 d2 d3
      refine ⟨D, y, d, w1, ld_exact hsc, by rw [ld_exact hsc]; exact nz_F y0, y0, ?_, fun up => ?_⟩
      · rw [← negFloat_F y y0, fma_neg ka kb, d1]
      · rw [sideF_K, w2, e1 up]
        have ez : nvZ (ldK c0 (exF a - exF b)) = D.z := by rw [← w2]; rfl
        have ea : (if (frF b).z < 0 then (-1 : Int) else 1) * ((frF a).z * (S : Int)) = sgA (frF a) (frF b) := by rw [sgA_z, Int.mul_assoc]
        have eb : (if (frF b).z < 0 then (-1 : Int) else 1) * (y.z * (frF b).z) = y.z * ((frF b).z.natAbs : Int) := by rw [abs_sg, Int.mul_left_comm]
        rw [ea, eb] at g1 g2
        refine sideK_ok hB nk (fun _ _ => ?_) (fun _ _ => ?_)
        · rw [g1, ez, s.1]
        · rw [g2, ez, s.2]
    · rw [h] at hz; cases hz
  · intro hz
    rcases nz_right out with ⟨D, _, _, _, h⟩ | ⟨h1, _, h2, h3⟩
    · rw [h] at hz; cases hz
    · refine ⟨h1, h3, fun z hzz => ?_⟩
      obtain ⟨d, d1, d2, d3⟩ := fin (y := F.zero) (.inl rfl) (by
        have z0 : F.zero.z = 0 := (z_zero F.zero).2 rfl
        rw [z0]; exact Nat.zero_le _)
      have z0 : F.zero.z = 0 := (z_zero F.zero).2 rfl
      rw [z0, Int.zero_mul, Int.sub_zero] at d1
      rw [z0, Int.zero_mul] at d2 d3
      have ne : (frF a).z * (S : Int) ≠ 0 := mul_ne hf0 (by omega)
      obtain ⟨g1, g2⟩ := sgF_lt (g := frF b) hg0 d2 d3
      refine ⟨d, by rw [fma_z' hzz hf0, d1], by omega, fun up => ?_⟩
      rw [sideW_K out h1, e1 up]
      have ea : (if (frF b).z < 0 then (-1 : Int) else 1) * ((frF a).z * (S : Int)) = sgA (frF a) (frF b) := by rw [sgA_z, Int.mul_assoc]
      rw [ea, Int.mul_zero] at g1 g2
      have s := scaled_side hB hB0 hr (D := 0) (y := 0) (by rw [Int.zero_mul, Int.zero_mul])
      rw [Int.zero_mul, Int.zero_mul] at s
      refine sideK_ok hB nk (fun l u => ?_) (fun l u => ?_)
      · have k0 : ldK c0 (exF a - exF b) = 0 := by omega
        rw [k0, nvZ_zero, Int.zero_mul, g1]
        exact s.1.symm
      · have k0 : ldK c0 (exF a - exF b) = 0 := by omega
        rw [k0, nvZ_zero, Int.zero_mul, g2]
        exact s.2.symm
end Bu
