/- What UnitSides asks of the numbers. -/
import Derived.Test.YtkgpcnehffiifaaFs
import Derived.Test.YtkgpcnehffiifaaUp
namespace Bu
set_option linter.all false
open Ieee

theorem sc64 {x y : F} (h : Sc x y 64) : y.z = x.z * 18446744073709551616 := by
  unfold Sc at h
  rw [show (-(64 : Int)).toNat = 0 from rfl, show (64 : Int).toNat = 64 from rfl] at h
  simpa using h

/-- the difference of two numbers that lie less than 1 apart -/
theorem sub_small (x y : F) (h0 : 0 ≤ x.z - y.z) (h1 : x.z - y.z ≤ (S : Int)) : ∃ D : F, double.sub x.b y.b = some D.b ∧ 0 ≤ D.k ∧ D.k ≤ 4607182418800017408 := by
  obtain ⟨one, o1, o2⟩ := one_k
  obtain ⟨r, hr⟩ := Int.eq_ofNat_of_zero_le (show 0 ≤ one.k by omega)
  have hT := one.hk
  have hS : nv r = S := by
    have : nvZ one.k = S := o1
    rw [hr] at this
    have e := nvZ_natCast r
    omega
  rw [sub_F]
  by_cases c : x.z - y.z = 0
  · rw [if_pos c]
    exact ⟨F.zero, by decide, by decide, by decide⟩
  · have hn : near (x.z - y.z).natAbs 1 ≤ r := near_le (by decide) (by rw [Nat.mul_one, hS]; omega)
    rw [if_neg c, decide_eq_false (by omega), Nat.min_eq_left (by omega), word_F _ _ (by omega) (by simp)]
    refine ⟨_, rfl, ?_⟩
    rw [if_neg (by decide), F.of_k (by omega)]
    omega

structure SFacts (u : Nat) (w lo hi X y : F) (B : Nat) : Prop where
  of : unitOf u = ⟨lo, hi⟩
  Bq : splitB w = B
  Bl : B < 18446744073709551616
  sw : Sc w y 64
  sl : Sc lo X 64
  y0 : 0 ≤ y.k
  yB : y.z / S = B
  l0 : 0 ≤ lo.k
  l1 : lo.k < 4607182418800017408
  yz : B = 0 → y.k < 4607182418800017408
  yn : 0 < B → ¬ y.k < 4607182418800017408
  under : u < B → lo.k < w.k
  over : B ≤ u → hi.k < w.k → ∃ D : F, double.sub y.b X.b = some D.b ∧ 0 ≤ D.k ∧ D.k ≤ 4607182418800017408

theorem sides_facts (u : Nat) (hu : u < 18446744073709551616) (w : F) (h0 : 0 ≤ w.k) (h1 : w.k < 4607182418800017408) : ∃ (lo hi X y : F) (B : Nat), SFacts u w lo hi X y B := by
  obtain ⟨lo, hi, n, X, N, fp⟩ := unit_facts u hu
  obtain ⟨y, b1, b2, b3⟩ := scale64 w h0 (by omega)
  have hl := splitB_lt w h0
  have hB := hl.2 y h1 b3
  obtain ⟨one, o1, o2⟩ := one_k
  have hS : (0 : Int) < S := by have := S_pos; omega
  have hy0 : 0 ≤ y.z := nvZ_nonneg b2
  have hX := sc64 fp.sc
  have hNu : N ≤ u := by rcases fp.cs with ⟨_, h⟩ | ⟨_, h, _⟩ <;> omega
  refine ⟨lo, hi, X, y, splitB w, fp.of, rfl, hl.1, b1, fp.sc, b2, hB, fp.lo, fp.lt, ?_, ?_, ?_, ?_⟩
  · intro hz
    rw [hz] at hB
    have : y.z < one.z := by
      rw [o1]
      have := Int.lt_ediv_add_one_mul_self y.z hS
      rw [hB] at this
      simpa using this
    have := F.z_lt.1 this
    omega
  · intro hz hc
    have : y.z < one.z := F.z_lt.2 (by omega)
    rw [o1] at this
    have := Int.ediv_eq_zero_of_lt hy0 this
    omega
  · intro hlt
    have hc : ¬ w.k ≤ lo.k := by
      intro hc
      have hz := F.z_le.2 hc
      have : y.z ≤ X.z := by omega
      have := Int.ediv_le_ediv hS this
      rw [fp.XN, hB] at this
      omega
    omega
  · intro hge hhi
    rcases fp.cs with ⟨e1, e2⟩ | ⟨e1, e2, e3⟩
    · subst e1 e2
      have hz := F.z_lt.2 hhi
      have hle : X.z ≤ y.z := by omega
      have hd := Int.ediv_le_ediv hS hle
      rw [fp.XN, hB] at hd
      have q1 := Int.lt_ediv_add_one_mul_self y.z hS
      have q2 := Int.ediv_mul_le X.z (show (S : Int) ≠ 0 by omega)
      have e4 : ((splitB w : Nat) : Int) = N := by omega
      rw [hB, e4, Int.add_mul, Int.one_mul] at q1
      rw [fp.XN] at q2
      refine sub_small y X (by omega) (by omega)
    · exfalso
      subst e1
      obtain ⟨Y, M, g1, g2, g3, g4, g5⟩ := e3 (by omega)
      have hz := F.z_lt.2 hhi
      have hY := sc64 g1
      have : Y.z ≤ y.z := by omega
      have := Int.ediv_le_ediv hS this
      rw [g3, hB] at this
      omega
end Bu
