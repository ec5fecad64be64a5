/- Numbers by parts of 2^32 between two others, plain. -/
import Derived.Test.YtccmfddnbofgkaaGreatIy
import Derived.Test.YtccmfddnbofgkaaGreatJb
namespace Bu
set_option linter.all false
open Rx Go

def cN32 : F := toF 4751297606873776128
/-- a part of 2^32 - 1 -/
def frT (n : Int) : F := sf (fdv (toF (FloatKind.f64.nearest n)) cN32)
def bwP (a b : F) (n : Int) : F := sf (fmu (sf (fsu b a)) (frT n))
def bwX (a b : F) (n : Int) : F := sf (fad a (bwP a b n))
def bwF (a b : F) (n : Int) : F := bif decide ((bwX a b n).k < a.k) then a else bif decide (b.k < (bwX a b n).k) then b else bwX a b n
def bwO (a b : F) (n : Int) : Obs := so (fad a (bwP a b n)) ++ so (fmu (sf (fsu b a)) (frT n)) ++ so (fdv (toF (FloatKind.f64.nearest n)) cN32) ++ [(rightB (FloatKind.f64.nearest n), true)] ++ so (fsu b a)
def wN32 (n : Int) : Bool := decide (0 ≤ n ∧ n ≤ 4294967295)
/-- two numbers whose difference is a number: D -/
def pairB (a b : F) : Bool := decide (a.k < b.k) && decide (F.zero.k < (sf (fsu b a)).k) && obsB (so (fsu b a)) && decide ((sf (fsu b a)).k ≤ (toF 4625196817309499392).k) && decide ((toF 4625196817309499392).neg.k ≤ a.k) && decide (a.k ≤ (toF 4625196817309499392).k) && decide (fmu (sf (fsu b a)) F.zero = some F.zero.b)
set_option maxRecDepth 100000 in
theorem cN32_z : cN32.z = 4294967295 * (S : Int) ∧ 0 < cN32.k := ⟨of_decide_eq_true (by decide +kernel), of_decide_eq_true (by decide +kernel)⟩
theorem c16_q : (toF 4625196817309499392).q = 16 := q_int (n := 16) (by decide +kernel)
theorem frT_ok {n : Int} (h : wN32 n = true) : ∃ t : F, fdv (toF (FloatKind.f64.nearest n)) cN32 = some t.b ∧ 0 ≤ t.k ∧ t.k ≤ one64.k ∧ rightB (FloatKind.f64.nearest n) = true := by
  have hn := of_decide_eq_true h
  obtain ⟨m, rfl⟩ := Int.eq_ofNat_of_zero_le hn.1
  by_cases hm : m = 0
  · subst hm
    exact ⟨F.zero, by decide +kernel, by decide +kernel, by decide +kernel, by decide +kernel⟩
  · have hP : P = 4503599627370496 := rfl
    have hz := nat_z (m := m) (by omega)
    have hk : 0 < (F.dy m 0).k := by
      have hS := S_pos
      have h2 : 0 < (F.dy m 0).z := by rw [hz]; exact Int.mul_pos (by omega) (by omega)
      have a := z_sign (F.dy m 0)
      have b := z_zero (F.dy m 0)
      omega
    have hle : (F.dy m 0).z ≤ cN32.z := by rw [hz, cN32_z.1]; exact Int.mul_le_mul_of_nonneg_right (by omega) (by have := S_pos; omega)
    obtain ⟨t, e, t0, t1⟩ := div_le1 hk cN32_z.2 hle one64_nv (by rw [T_num]; omega)
    refine ⟨t, ?_, t0, by rw [one64_k]; omega, by rw [near_int (by omega)]; exact right_F _⟩
    unfold fdv
    rw [near_int (by omega), toF_F]; exact e
theorem mul_le1 {x y : F} (hx : 0 < x.k) (hy : 0 < y.k) (h : y.k ≤ one64.k) : ∃ t : F, fmu x y = some t.b ∧ 0 ≤ t.k ∧ t.k ≤ x.k := by
  have hz : y.z ≤ (S : Int) := by
    have h1 := q_le.2 h
    rw [one_q] at h1
    have h2 := F.q_mul y
    have h3 : (y.z : Rat) ≤ ((S : Int) : Rat) := by
      rw [← h2]
      have := Rat.mul_nonneg (show 0 ≤ 1 - y.q by grind) (Rat.le_of_lt S_gt)
      rw [Rat.intCast_natCast]
      generalize (S : Rat) = s at *
      grind
    exact Rat.intCast_le_intCast.1 h3
  have e := mul_F x y (by omega) (by omega)
  rw [decide_eq_false (show ¬ x.k < 0 by omega), decide_eq_false (show ¬ y.k < 0 by omega)] at e
  have hT := x.hk
  have hn : near (x.z.natAbs * y.z.natAbs) S ≤ x.k.natAbs := by
    refine near_le S_pos ?_
    have a := nvk (c := x) (by omega)
    have b := z_sign x; have c := z_sign y
    have : x.z.natAbs = nv x.k.natAbs := by omega
    rw [this]
    exact Nat.mul_le_mul_left _ (by omega)
  rw [Nat.min_eq_left (by omega), show (false ^^ false) = false from rfl, word_F _ _ (by omega) (by simp), if_neg (by decide)] at e
  exact ⟨_, e, by rw [F.of_k (by omega)]; omega, by rw [F.of_k (by omega)]; omega⟩
theorem bw_ok {a b : F} {n : Int} (hp : pairB a b = true) (h : wN32 n = true) : obsB (bwO a b n) = true := by
  unfold pairB at hp
  simp only [Bool.and_eq_true, decide_eq_true_iff] at hp
  obtain ⟨⟨⟨⟨⟨⟨p1, p2⟩, p3⟩, p4⟩, p5⟩, p6⟩, p7⟩ := hp
  obtain ⟨t, e1, t0, t1, hr⟩ := frT_ok h
  obtain ⟨o1, o2⟩ := so_ok e1
  have eT : frT n = t := o2
  have p2' : 0 < (sf (fsu b a)).k := p2
  have hm : ∃ p : F, fmu (sf (fsu b a)) t = some p.b ∧ 0 ≤ p.k ∧ p.k ≤ (sf (fsu b a)).k := by
    by_cases ht : t.k = 0
    · have : t = F.zero := F.ext' ht
      subst this
      exact ⟨F.zero, p7, Int.le_refl _, by show (0 : Int) ≤ _; omega⟩
    · exact mul_le1 p2' (by omega) t1
  obtain ⟨p, e2, q0, q1⟩ := hm
  obtain ⟨o3, o4⟩ := so_ok e2
  have eP : bwP a b n = p := by unfold bwP; rw [eT]; exact o4
  have c := c16_q
  have a1 := q_le.2 p6; have a2 := q_le.2 p5; have a3 := q_le.2 (Int.le_trans q1 p4)
  have a4 : 0 ≤ p.q := by rw [← q_zero]; exact q_le.2 q0
  rw [q_neg] at a2
  obtain ⟨g, hg⟩ := big_ex
  obtain ⟨D, e3, _⟩ := add_nr (x := a) (y := p) (g := g) (by grind) (by grind)
  obtain ⟨o5, _⟩ := so_ok (show fad a p = some D.b from e3)
  unfold bwO
  rw [eP, eT]
  exact ob2 (ob2 (ob2 (ob2 o5 o3) o1) (obsB_yes hr obsB_nil)) p3
theorem bwF_in {a b : F} {n : Int} (h : a.k ≤ b.k) : a.k ≤ (bwF a b n).k ∧ (bwF a b n).k ≤ b.k := by
  unfold bwF
  cases h1 : decide ((bwX a b n).k < a.k)
  · have g1 := of_decide_eq_false h1
    cases h2 : decide (b.k < (bwX a b n).k)
    · have g2 := of_decide_eq_false h2
      simp only [cond_false]; omega
    · exact ⟨h, Int.le_refl _⟩
  · exact ⟨Int.le_refl _, h⟩
def kBw (f : F → F → Int → F) (p : F → F → Bool) (u : Int → Bool) : List SV → Dec → Option (SV × Dec × Obs)
  | [.fl a, .fl b, x], ds => match intS x with
    | some (.u32, n) => some (.fl (f a b n), ds, [(p a b, true), (u n, true)])
    | _ => none
  | _, _ => none
theorem fad_zero (x : F) : fad x (toF 0) = some x.b := by
  unfold fad
  have hz : (toF 0).z = 0 := by decide +kernel
  rw [add_F, hz, Int.add_zero]
  by_cases h : x.k = 0
  · have e : x = F.zero := F.ext' h
    subst e
    rw [if_pos (by rw [F.zero_z])]; rfl
  · have hne : x.z ≠ 0 := fun k => h ((z_zero _).1 k)
    rw [if_neg hne]
    congr 1
    rw [z_natAbs', near_exact (r := x.k.natAbs) (by decide) (by omega)]
    have := x.hk
    rw [show min x.k.natAbs T = x.k.natAbs from by omega, ← word_sign _ h]
    congr 1
    exact decide_eq_decide.2 (z_sign _)
def meetsB (a b : I) : Bool := decide (a.lo.k ≤ b.hi.k) && decide (b.lo.k ≤ a.hi.k)
def pt (x : F) : I := ⟨x, x⟩
def kPt : List SV → Dec → Option (SV × Dec × Obs)
  | [.fl a], ds => some (.agg [.fl a, .fl a], ds, [])
  | _, _ => none
end Bu
