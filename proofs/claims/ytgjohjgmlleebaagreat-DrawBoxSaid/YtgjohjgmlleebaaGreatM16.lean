/- Numbers between -1 and 1 of 32 bits: none is 0 (the half). EvalBack by the reckoner: the run. burnishlaw21.EvalCoat: the run. eval.Eval: no errors, boxes, for any right program. burnishlaw21.EvalCoat, proved. EvalBack, plain: turned triples; both ways the same; mirrors. burnishlaw21.EvalBack, proved. DrawBox, proved. -/
import Derived.Test.YtgjohjgmlleebaaGreatM15
import Derived.Test.YtgjohjgmlleebaaGreatM14
namespace Bu
set_option linter.all false
open Rx Go Ieee
def kL : F := toF 4602678819171598336
def kH : F := toF 4602678819173171200
def kO : F := toF 4607182418800541696
def kD : F := toF 13677432068324196352
def kE : F := toF 4454060031469420544
theorem kc : decide (nv kL.k.natAbs * 17179869184 = 8589934591 * S) = true ∧ decide (nv kH.k.natAbs * 17179869184 = 8589934593 * S) = true ∧ 0 < kL.k ∧ 0 < kH.k ∧ decide (man cN32.k.natAbs = 4294967295 * 2097152) = true ∧ decide (pl cN32.k.natAbs = 1053) = true ∧ decide (Nat.log2 (4294967295 * 2097152) = 52) = true := by decide +kernel
theorem ac_4 (m0 U V : Nat) : m0 * (U * V * 2) * 18014398509481984 = m0 * 36028797018963968 * U * V := by
  have e : 36028797018963968 = 2 * 18014398509481984 := rfl
  rw [e]
  generalize 18014398509481984 = c
  simp only [Nat.mul_assoc, Nat.mul_comm, Nat.mul_left_comm]
theorem fin_l {a : Nat} {k : Int} (h : 0 < k) (h2 : a ≤ k.natAbs) : (a : Int) ≤ k := by omega
theorem fin_h {a : Nat} {k : Int} (h : 0 < k) (h2 : k.natAbs ≤ a) : k ≤ (a : Int) := by omega
/-- parts of 2^32 - 1: none is next to the half -/
theorem frT_half {n : Int} (h : wN32 n = true) : (frT n).k ≤ kL.k ∨ kH.k ≤ (frT n).k := by
  have hn := of_decide_eq_true h
  obtain ⟨m0, rfl⟩ := Int.eq_ofNat_of_zero_le hn.1
  by_cases hm : m0 = 0
  · subst hm; left; exact (by decide +kernel : (frT 0).k ≤ kL.k)
  · have hP : P = 4503599627370496 := rfl
    have hz := nat_z (m := m0) (by omega)
    have hS := S_pos
    have hk : 0 < (F.dy m0 0).k := by
      have h2 : 0 < (F.dy m0 0).z := by rw [hz]; exact Int.mul_pos (by omega) (by omega)
      have a := z_sign (F.dy m0 0)
      have b := z_zero (F.dy m0 0)
      omega
    have hle : (F.dy m0 0).z ≤ cN32.z := by rw [hz, cN32_z.1]; exact Int.mul_le_mul_of_nonneg_right (by omega) (by omega)
    have hzm := z_natAbs (F.dy m0 0)
    have hza : (F.dy m0 0).z.natAbs = m0 * S := by rw [hz, Int.natAbs_mul]; rfl
    rw [hza] at hzm
    obtain ⟨q1, q2⟩ := man_pl (F.dy m0 0).k.natAbs
    obtain ⟨s, hs, eS⟩ := S_pow
    generalize hmm : man (F.dy m0 0).k.natAbs = m at hzm q1 q2
    generalize hpa : pl (F.dy m0 0).k.natAbs = A at hzm q1
    rw [eS] at hzm
    have hPp : 4503599627370496 = 2 ^ 52 := rfl
    have mP : P ≤ m := by
      rcases q1 with q | q
      · rw [q, Nat.pow_zero, Nat.mul_one] at hzm
        have h1 : 2 ^ 54 ≤ 2 ^ s := Nat.pow_le_pow_right (by omega) (by omega)
        have h2 : 2 ^ s ≤ m0 * 2 ^ s := Nat.le_mul_of_pos_left _ (by omega)
        omega
      · exact q
    have hlog : m.log2 = 52 := (Nat.log2_eq_iff (by omega)).2 ⟨by omega, by omega⟩
    have hA1 : 1022 ≤ A := by
      have h1 : 2 ^ s ≤ m * 2 ^ A := by rw [← hzm]; exact Nat.le_mul_of_pos_left _ (by omega)
      have h2 : m * 2 ^ A < 2 ^ (53 + A) := by rw [Nat.pow_add]; exact Nat.mul_lt_mul_of_pos_right (by omega) (Nat.two_pow_pos A)
      have := (Nat.pow_lt_pow_iff_right (a := 2) (by omega)).1 (Nat.lt_of_le_of_lt h1 h2)
      omega
    have hA2 : A ≤ 1053 := by
      have h1 : 2 ^ (52 + A) ≤ m * 2 ^ A := by rw [Nat.pow_add]; exact Nat.mul_le_mul_right _ (by omega)
      have h2 : m0 * 2 ^ s < 2 ^ (32 + s) := by rw [Nat.pow_add]; exact Nat.mul_lt_mul_of_pos_right (by omega) (Nat.two_pow_pos s)
      have := (Nat.pow_lt_pow_iff_right (a := 2) (by omega)).1 (Nat.lt_of_le_of_lt h1 (hzm ▸ h2))
      omega
    obtain ⟨t, e, ht⟩ := div_near hk cN32_z.2 hle one64_nv (by rw [T_num]; omega) hmm (of_decide_eq_true kc.2.2.2.2.1) hpa (of_decide_eq_true kc.2.2.2.2.2.1) (more := 54) (by rw [of_decide_eq_true kc.2.2.2.2.2.2, hlog])
    have eT : frT (m0 : Nat) = t := by
      unfold frT fdv
      rw [near_int (by omega), toF_F, e]
      exact (so_ok (s := some t.b) rfl).2
    rw [eT, ht]
    have e1 : (-1074 + (A : Int) - (-1074 + ((1053 : Nat) : Int)) - ((54 : Nat) : Int) - 1 + 1074).toNat = A - 34 := by omega
    have e2 : (-(-1074 + (A : Int) - (-1074 + ((1053 : Nat) : Int)) - ((54 : Nat) : Int) - 1 + 1074)).toNat = 0 := by omega
    rw [e1, e2, Nat.pow_zero]
    -- the numbers by the half
    have hv : ∀ {c : F} {a : Nat}, nv c.k.natAbs * 17179869184 = a * S → nv c.k.natAbs = 2 * (a * 2 ^ (1073 - A)) * 2 ^ (A - 34) := fun {c a} hc => by
      rw [eS] at hc
      have h1 : (2 : Nat) ^ s = 2 ^ (1 + (1073 - A) + (A - 34)) * 2 ^ 34 := by rw [← Nat.pow_add]; congr 1; omega
      rw [h1, Nat.pow_add, Nat.pow_add] at hc
      have h34 : (2 : Nat) ^ 34 = 17179869184 := rfl
      rw [h34, ← Nat.mul_assoc] at hc
      have := Nat.eq_of_mul_eq_mul_right (by omega) hc
      rw [this]
      generalize 2 ^ (1073 - A) = U
      generalize 2 ^ (A - 34) = V
      rw [Nat.pow_one]
      simp only [Nat.mul_assoc, Nat.mul_left_comm]
    have hn0 : 4294967295 * 2097152 ≠ 0 := by omega
    have hsp : (2 : Nat) ^ s = 2 ^ (1073 - A) * 2 ^ A * 2 := by rw [← Nat.pow_add, ← Nat.pow_succ]; congr 1; omega
    have h54 : (2 : Nat) ^ 54 = 18014398509481984 := rfl
    -- m * 2^54 against R * n, times 2^A
    have hM : m * 2 ^ 54 * 2 ^ A = m0 * 36028797018963968 * 2 ^ (1073 - A) * 2 ^ A := by
      have : m * 2 ^ 54 * 2 ^ A = m * 2 ^ A * 2 ^ 54 := Nat.mul_right_comm _ _ _
      rw [this, ← hzm, hsp, h54]
      exact ac_4 m0 _ _
    have hM' : m * 2 ^ 54 = m0 * 36028797018963968 * 2 ^ (1073 - A) := Nat.eq_of_mul_eq_mul_right (Nat.two_pow_pos A) hM
    rw [hM']
    have hU := Nat.two_pow_pos (1073 - A)
    rcases Nat.lt_or_ge m0 2147483648 with g | g
    · left
      have h1 : m0 * 36028797018963968 * 2 ^ (1073 - A) ≤ 8589934591 * 2 ^ (1073 - A) * (4294967295 * 2097152) := by
        rw [Nat.mul_right_comm 8589934591]
        exact Nat.mul_le_mul_right _ (by omega)
      have h2 := Nat.mul_le_mul_right (2 ^ (A - 34)) (mag_le hn0 h1)
      have h3 := near_le (r := kL.k.natAbs) (d := 1) (by decide) (n := _) (by rw [Nat.mul_one, hv (of_decide_eq_true kc.1)]; exact h2)
      exact fin_l kc.2.2.1 h3
    · right
      have h1 : 8589934593 * 2 ^ (1073 - A) * (4294967295 * 2097152) ≤ m0 * 36028797018963968 * 2 ^ (1073 - A) := by
        rw [Nat.mul_right_comm 8589934593]
        exact Nat.mul_le_mul_right _ (by omega)
      have h2 := Nat.mul_le_mul_right (2 ^ (A - 34)) (mag_ge hn0 h1)
      have h3 := le_near (r := kH.k.natAbs) (d := 1) (by decide) (n := _) (by rw [Nat.mul_one, hv (of_decide_eq_true kc.2.1)]; exact h2)
      exact fin_h kc.2.2.2.1 h3
/-- a product with one of at most 1, from below -/
theorem mul_ge1 {x y c : F} (hx : 0 < x.k) (hy : 0 < y.k) (h : y.k ≤ one64.k) (hc : 0 ≤ c.k) (hv : c.z * (S : Int) ≤ x.z * y.z) : ∃ t : F, fmu x y = some t.b ∧ c.k ≤ t.k ∧ t.k ≤ x.k := by
  have hz : y.z ≤ (S : Int) := by
    have h1 := q_le.2 h
    rw [one_q] at h1
    have h2 := F.q_mul y
    have h3 : (y.z : Rat) ≤ ((S : Int) : Rat) := by
      rw [← h2]
      have := Rat.mul_nonneg (show 0 ≤ 1 - y.q by grind) (Rat.le_of_lt S_gt)
      rw [Rat.intCast_natCast]
      generalize (S : Rat) = s at *
      grind
    exact Rat.intCast_le_intCast.1 h3
  have e := mul_F x y (by omega) (by omega)
  rw [decide_eq_false (show ¬ x.k < 0 by omega), decide_eq_false (show ¬ y.k < 0 by omega)] at e
  have hT := x.hk
  have b := z_sign x; have c' := z_sign y
  have hn : near (x.z.natAbs * y.z.natAbs) S ≤ x.k.natAbs := by
    refine near_le S_pos ?_
    have a := nvk (c := x) (by omega)
    have : x.z.natAbs = nv x.k.natAbs := by omega
    rw [this]
    exact Nat.mul_le_mul_left _ (by omega)
  have hm : c.k.natAbs ≤ near (x.z.natAbs * y.z.natAbs) S := by
    refine le_near S_pos ?_
    have a := nvk (c := c) hc
    have h1 : ((nv c.k.natAbs * S : Nat) : Int) ≤ ((x.z.natAbs * y.z.natAbs : Nat) : Int) := by
      rw [Int.natCast_mul, Int.natCast_mul, a]
      have e1 : (x.z.natAbs : Int) = x.z := by omega
      have e2 : (y.z.natAbs : Int) = y.z := by omega
      rw [e1, e2]; exact hv
    exact Int.ofNat_le.1 h1
  rw [Nat.min_eq_left (by omega), show (false ^^ false) = false from rfl, word_F _ _ (by omega) (by simp), if_neg (by decide)] at e
  exact ⟨_, e, by rw [F.of_k (by omega)]; omega, by rw [F.of_k (by omega)]; omega⟩
theorem kc2 : decide (kO.z = 2 * kH.z) = true ∧ decide (sf (fsu one64 mone64) = two64) = true ∧ 0 ≤ kO.k ∧ 0 < two64.k ∧ mone64.k ≠ 0 ∧ one64.k ≠ 0 ∧ kD.k < 0 ∧ 0 < kE.k := by decide +kernel
theorem kq : kL.q * 17179869184 = 8589934591 ∧ kO.q * 8589934592 = 8589934593 ∧ kD.q * 17179869184 = -1 ∧ kE.q * 17179869184 = 1 :=
  ⟨q_of' (n := 8589934591) (s := 34) (by decide +kernel) rfl, q_of' (n := 8589934593) (s := 33) (by decide +kernel) rfl, q_of' (n := -1) (s := 34) (by decide +kernel) rfl, q_of' (n := 1) (s := 34) (by decide +kernel) rfl⟩
theorem bwX_ne {n : Int} (h : wN32 n = true) : (bwX mone64 one64 n).k ≠ 0 := by
  obtain ⟨t, e1, t0, t1, hr⟩ := frT_ok h
  have eT : frT n = t := (so_ok e1).2
  have hh := frT_half h
  rw [eT] at hh
  obtain ⟨_, c2, c3, c4, _, _, c7, c8⟩ := kc2
  have c2 := of_decide_eq_true c2
  obtain ⟨q1, q2, q3, q4⟩ := kq
  obtain ⟨g, hg⟩ := big_ex
  have eX : ∀ {p : F}, fmu two64 t = some p.b → bwX mone64 one64 n = sf (fad mone64 p) := fun {p} hp => by
    unfold bwX bwP
    rw [eT, c2, (so_ok hp).2]
  have t0q : 0 ≤ t.q := by rw [← q_zero]; exact q_le.2 t0
  have t1q := q_le.2 t1
  rw [one_q] at t1q
  have m1 : mone64.q = -1 := mone_q
  rcases hh with g1 | g1
  · have hq := q_le.2 g1
    obtain ⟨p, hp, hpq⟩ := twice_ok (x := t) t0 (by grind)
    obtain ⟨D, e3, hD⟩ := add_nr (x := mone64) (y := p) (g := g) (by grind) (by grind)
    rw [eX hp, (so_ok (show fad mone64 p = some D.b from e3)).2]
    have := q_le.1 (hD.up kD (by grind))
    omega
  · have hk : 0 < kH.k := kc.2.2.2.1
    have hz : kO.z * (S : Int) ≤ two64.z * t.z := by
      have h1 : kH.z ≤ t.z := nvZ_le_iff.2 g1
      have h2 := of_decide_eq_true kc2.1
      have h3 := of_decide_eq_true two_z
      rw [h2, h3]
      have hS : (0 : Int) ≤ (S : Int) := Int.natCast_nonneg S
      have h4 := Int.mul_le_mul_of_nonneg_left h1 (Int.mul_nonneg (show (0 : Int) ≤ 2 by decide) hS)
      have e1 : 2 * kH.z * (S : Int) = 2 * (S : Int) * kH.z := by rw [Int.mul_assoc, Int.mul_assoc, Int.mul_comm kH.z]
      rw [e1]; exact h4
    obtain ⟨p, hp, p1, p2⟩ := mul_ge1 c4 (Int.lt_of_lt_of_le hk g1) t1 c3 hz
    have pq := q_le.2 p1
    have pq2 := q_le.2 p2
    have tq : two64.q = 2 := q_int (x := two64) (n := 2) (by decide +kernel)
    rw [tq] at pq2
    obtain ⟨D, e3, hD⟩ := add_nr (x := mone64) (y := p) (g := g) (by grind) (by grind)
    rw [eX hp, (so_ok (show fad mone64 p = some D.b from e3)).2]
    have := q_le.1 (hD.dn kE (by grind))
    omega
/-- no part of a direction of numbers, along the surface, is 0 -/
theorem bw_ne {n : Int} (h : wN32 n = true) : (bwF mone64 one64 n).k ≠ 0 := by
  have hx := bwX_ne h
  obtain ⟨_, _, _, _, c5, c6, _⟩ := kc2
  unfold bwF
  cases decide ((bwX mone64 one64 n).k < mone64.k)
  · cases decide (one64.k < (bwX mone64 one64 n).k)
    · exact hx
    · exact c6
  · exact c5
end Bu
namespace Go.Proofs.YtgjohjgmlleebaaGreat
set_option linter.all false
open Go.RowKit Bu Rx
section
variable (W : Nlb) (pc : List SV) (n : Nat) (u : U6) (i : Int) (x : Nat → SV)
end
end Go.Proofs.YtgjohjgmlleebaaGreat
namespace Go.Proofs.YtgjohjgmlleebaaGreat
set_option linter.all false
open Go.RowKit Bu Rx
end Go.Proofs.YtgjohjgmlleebaaGreat
namespace Bu
set_option linter.all false
open Rx Go
/-- a coat's steps -/
structure OvP (i o : I) (w : F) (a : Ch) (s h x y f q t z r : I) : Prop where
  e1 : KkR.sub 0 (pt one64) o = (s, 0)
  e2 : KkR.sub 0 (pt one64) i = (h, 0)
  e3 : KkR.mul 0 h s = (x, 0)
  e4 : KkR.mul 0 x (pt w) = (y, 0)
  e5 : KkR.mul 0 y a.p = (f, 0)
  e6 : KkR.sqr 0 s = (q, 0)
  e7 : KkR.mul 0 q (pt w) = (t, 0)
  e8 : KkR.mul 0 t a.m = (z, 0)
  e9 : KkR.add 0 o z = (r, 0)
theorem OvP.eq {i o : I} {w : F} {a : Ch} {s h x y f q t z r : I} (k : OvP i o w a s h x y f q t z r) : overC KkR i o w a = (⟨f, r⟩, 0) := by
  unfold overC
  have n1 : KkR.num 0 one_ = (pt one64, 0) := rfl
  have n2 : KkR.num 0 w = (pt w, 0) := rfl
  simp only [n1, n2, k.e1, k.e2, k.e3, k.e4, k.e5, k.e6, k.e7, k.e8, k.e9]
end Bu
namespace Go.Proofs.YtgjohjgmlleebaaGreat
set_option linter.all false
open Go.RowKit Bu Rx
set_option maxRecDepth 100000 in
theorem bz1_B : byE bz1 bz1 = true ∧ (decide ((KTR.sqr 0 bz1).2 = 0) && inbB (KTR.sqr 0 bz1).1 bz1) = true := by decide +kernel
theorem sqr_in {x : I} (hx : InB x bz1) : ∃ r, KkR.sqr 0 x = (r, 0) ∧ InB r bz1 := by
  have k := bz1_B.2
  rw [Bool.and_eq_true, decide_eq_true_eq] at k
  obtain ⟨r, e, n⟩ := sqr_inn hx.inn k.1
  exact ⟨r, e, inB_tr n.inB k.2⟩
end Go.Proofs.YtgjohjgmlleebaaGreat
namespace Bu
set_option linter.all false
open Rx Go
end Bu
namespace Go.Proofs.YtgjohjgmlleebaaGreat
set_option linter.all false
open Go.RowKit Bu Rx
end Go.Proofs.YtgjohjgmlleebaaGreat
namespace Bu
set_option linter.all false
open Rx Go
end Bu
namespace Go.Proofs.YtgjohjgmlleebaaGreat
set_option linter.all false
open Go.RowKit Bu Rx
section
variable {v u v' u' : V3} (hv : OneP v) (hu : OneP u) (hv' : OneP v') (hu' : OneP u') {cs : List SV} {len : Nat} (K : OkPg cs len) (hlen : len ≤ 20) {k : Nat} (hk : k < 3)
include hv hu K hlen hk
end
end Go.Proofs.YtgjohjgmlleebaaGreat
namespace Go.Proofs.YtgjohjgmlleebaaGreat
set_option linter.all false
open Go.RowKit Bu Rx
end Go.Proofs.YtgjohjgmlleebaaGreat
namespace Go.Proofs.YtgjohjgmlleebaaGreat
set_option linter.all false
open Go.RowKit Bu Rx
def WbOk (W : Nbx) (pc : List SV) (n : Nat) (q : B8) (X Y Z : F) : Prop := (∃ s t e f, (e ≠ .z ∨ f ≠ .z) ∧ ObsOk (wbO W pc n q X Y Z s t e f)) ∨ ∃ s k, ObsOk (wkO W pc n q X Y Z s k)
theorem wb_run {W : Nbx} (hO : OracleOk Tryz.prog (OBx W)) {pc : List SV} {n : Nat} {q : B8} {X Y Z : F} {x : Nat → SV} {B : Bs} (K : WbOk W pc n q X Y Z) :
    RunsB Tryz.prog B (post 2 wbC) (wbS pc n q X Y Z x none) .ret (fun t => resultS Tryz.prog Tryz.f6 t = some (.b true)) := by
  have fin : ∀ {d : List Bool} {ob : Obs}, Lands Tryz.prog EG (OBx W) 60 (post 2 wbC) (wbS pc n q X Y Z x (some d)) .ret → (wbR W pc n q X Y Z x d).ob = ob → resultS Tryz.prog Tryz.f6 (wbR W pc n q X Y Z x d) = some (.b true) → ObsOk ob → RunsB Tryz.prog B (post 2 wbC) (wbS pc n q X Y Z x none) .ret (fun t => resultS Tryz.prog Tryz.f6 t = some (.b true)) := fun {d ob} hL hb hv ho =>
    RunsB.re (d := some d) (o := []) (RunsP.bs (Lands.all goodG hO hL (hb ▸ ho) hv))
  rcases K with ⟨s, t, e, f, hne, ho⟩ | ⟨s, k, ho⟩
  · cases e <;> cases f
    · rcases hne with h | h <;> exact absurd rfl h
    · exact fin (wbL_zw W pc n q X Y Z x s t) (wbO_zw W pc n q X Y Z x s t) (wbV_zw W pc n q X Y Z x s t) ho
    · exact fin (wbL_zo W pc n q X Y Z x s t) (wbO_zo W pc n q X Y Z x s t) (wbV_zo W pc n q X Y Z x s t) ho
    · exact fin (wbL_wz W pc n q X Y Z x s t) (wbO_wz W pc n q X Y Z x s t) (wbV_wz W pc n q X Y Z x s t) ho
    · exact fin (wbL_ww W pc n q X Y Z x s t) (wbO_ww W pc n q X Y Z x s t) (wbV_ww W pc n q X Y Z x s t) ho
    · exact fin (wbL_wo W pc n q X Y Z x s t) (wbO_wo W pc n q X Y Z x s t) (wbV_wo W pc n q X Y Z x s t) ho
    · exact fin (wbL_oz W pc n q X Y Z x s t) (wbO_oz W pc n q X Y Z x s t) (wbV_oz W pc n q X Y Z x s t) ho
    · exact fin (wbL_ow W pc n q X Y Z x s t) (wbO_ow W pc n q X Y Z x s t) (wbV_ow W pc n q X Y Z x s t) ho
    · exact fin (wbL_oo W pc n q X Y Z x s t) (wbO_oo W pc n q X Y Z x s t) (wbV_oo W pc n q X Y Z x s t) ho
  · cases k
    · exact fin (wkL_f W pc n q X Y Z x s) (wkO_f W pc n q X Y Z x s) (wkV_f W pc n q X Y Z x s) ho
    · exact fin (wkL_m W pc n q X Y Z x s) (wkO_m W pc n q X Y Z x s) (wkV_m W pc n q X Y Z x s) ho
    · exact fin (wkL_d W pc n q X Y Z x s) (wkO_d W pc n q X Y Z x s) (wkV_d W pc n q X Y Z x s) ho
set_option maxRecDepth 20000 in
/-- of any slice of rows -/
theorem wb_calls {W : Nbx} (hO : OracleOk Tryz.prog (OBx W)) {el : TypeId} {z : Nat × Nat} {cells : List SV} {off len cap : Nat} {q : B8} {m : Nms} {w : World} {vs : List Value} (hM : MemAt m w [⟨el, cells, .ro z⟩]) (hvs : dens m (.ssl 0 off len cap :: q.args) = some vs)
    (hc : len ≤ cap) (hb : W.b ((cells.drop off).take (len * 8)) len = true) (hu : ObsOk (dirU W.N q.x q.y q.z)) (K : WbOk W (W.g ((cells.drop off).take (len * 8)) len) (prK len + 1) q (wbX W q) (wbY W q) (wbZz W q)) :
    Calls Tryz.prog 6 vs.toArray w fun e w' => e = .returned (.bool true) ∧ Below w.heap.size w w' := by
  refine RunsW.call (d := none) Tryz.func6 wbBody (x := .b true) rfl hvs hM ?_
  show RunsW Tryz.prog ⟨m, [⟨el, cells, .ro z⟩], w, hM⟩ wbC (wbA el z cells off len cap q) .ret _
  refine runW_ok goodG hO (wbLa W el z cells off len cap q) (by rw [wbOa]; exact ob_a hu (ob_c (decide_eq_true hc) (ob_c hb ob_n))) ?_
  obtain ⟨rest, hr⟩ := wbRa W el z cells off len cap q
  refine RunsW.fresh (ids := [1, 2, 3, 4]) (fun b hb => by rw [List.mem_singleton] at hb; subst hb; rfl) hr rfl (wbMa W el z cells off len cap q) (fun j n hj => by
    have hl : j < 4 := (List.getElem?_eq_some_iff.1 hj).1
    rcases (by omega : j = 0 ∨ j = 1 ∨ j = 2 ∨ j = 3) with rfl | rfl | rfl | rfl <;> simp at hj <;> subst hj <;> simp) (fun b hb => by
      simp only [wbM, List.mem_cons, List.not_mem_nil, or_false] at hb
      rcases hb with rfl | rfl | rfl | rfl <;> rfl) fun B' v hB' => ?_
  have hs : SameSt (wbS (W.g ((cells.drop off).take (len * 8)) len) (prK len + 1) q (wbX W q) (wbY W q) (wbZz W q) (wbXa W el z cells off len cap q v) none) ((wbA2 W el z cells off len cap q).sel [1, 2, 3, 4] (wbM (W.g ((cells.drop off).take (len * 8)) len) q (wbX W q) (wbY W q) (wbZz W q)) v) := same_eq (wbTa W el z cells off len cap q v _).symm rfl
  exact RunsB.retell hs (wb_run hO (x := wbXa W el z cells off len cap q v) K)
set_option maxRecDepth 20000 in
/-- of no slice -/
theorem wb_nil {W : Nbx} (hO : OracleOk Tryz.prog (OBx W)) {q : B8} {w : World} {vs : List Value} (hvs : dens Nms.no (.o (.slice none 0 0) :: q.args) = some vs) (hu : ObsOk (dirU W.N q.x q.y q.z)) (K : WbOk W (W.g [] 0) 1 q (wbX W q) (wbY W q) (wbZz W q)) :
    Calls Tryz.prog 6 vs.toArray w fun e w' => e = .returned (.bool true) ∧ Below w.heap.size w w' := by
  refine RunsW.call (d := none) Tryz.func6 wbBody (x := .b true) rfl hvs (MemAt.no w) ?_
  show RunsW Tryz.prog ⟨Nms.no, [], w, MemAt.no w⟩ wbC (wbZ q) .ret _
  refine runW_ok goodG hO (wbLz W q) (by rw [wbOz]; exact hu) ?_
  refine RunsW.fresh (rest := (wbZ2 W q).M) (ids := [0, 1, 2, 3]) (fun b hb => by cases hb) (List.nil_append _).symm rfl (wbMz W q) (fun j n hj => Nat.zero_le _) (fun b hb => by
      simp only [wbM, List.mem_cons, List.not_mem_nil, or_false] at hb
      rcases hb with rfl | rfl | rfl | rfl <;> rfl) fun B' v hB' => ?_
  have hs : SameSt (wbS (W.g [] 0) 1 q (wbX W q) (wbY W q) (wbZz W q) (wbXz W q v) none) ((wbZ2 W q).sel [0, 1, 2, 3] (wbM (W.g [] 0) q (wbX W q) (wbY W q) (wbZz W q)) v) := same_eq (wbTz W q v _).symm rfl
  exact RunsB.retell hs (wb_run hO (x := wbXz W q v) K)
noncomputable def WxR : Nbx := ⟨NprR, fun cs len => prgC NprR (prU cs len) (prK len), prInB NprR, okPg, DsR, unV KkR, unB⟩
theorem oracleBx : OracleOk Tryz.prog (OBx WxR) := .cons (eiO_ok (prG oraclePr rk_p.2.2.1 rfl) (pzG oraclePr rfl)) (.cons bwG.of (.cons dwOG (.cons rgtG.of (.cons unG.of (.cons awake23G.of (.nil _))))))
theorem ck_hd {cs : List SV} {o : Nat} (h : ckAll cs o ndCK = true) : ckAll cs o [.i .u8] = true := by
  have h' : (ckOk cs o (.i .u8) && ckAll cs (o + 1) (ndCK.drop 1)) = true := h
  rw [Bool.and_eq_true] at h'
  show (ckOk cs o (.i .u8) && true) = true
  rw [h'.1]; rfl
theorem e3_of {e : Int} (h : Er e) : ∃ k : E3, e = k.v := by
  rcases h with h | h | h
  · exact ⟨.z, h⟩
  · exact ⟨.w, h⟩
  · exact ⟨.o, h⟩
theorem cdO_ok (k : E3) : ObsOk (cdO k.v k) := by
  cases k
  · exact ob_c rfl ob_n
  · exact ob_c rfl (ob_c rfl (ob_c rfl ob_n))
  · exact ob_c rfl (ob_c rfl ob_n)
theorem neO_ok {e f : E3} (h : e ≠ .z ∨ f ≠ .z) : ObsOk (neO e.v f.v e) := by
  cases e
  · cases f
    · rcases h with h | h <;> exact absurd rfl h
    · exact ob_c rfl (ob_c rfl ob_n)
    · exact ob_c rfl (ob_c rfl ob_n)
  · exact ob_c rfl ob_n
  · exact ob_c rfl ob_n
structure B8.Ok (q : B8) : Prop where
  x : wN32 q.x = true
  y : wN32 q.y = true
  z : wN32 q.z = true
  a : u64P q.a
  b : u64P q.b
  c : u64P q.c
  d : u64P q.d
  e : u64P q.e
theorem wb_ok {pc : List SV} {n : Nat} {q : B8} (hl : pc.length = n * 19) (hok : okPg pc n = true) (hn : n ≤ 8) (hq : q.Ok) : WbOk WxR pc n q (wbX WxR q) (wbY WxR q) (wbZz WxR q) := by
  have hP : wbC1 pc n = pc := by unfold wbC1; rw [List.drop_zero, ← hl, List.take_length]
  have K := okPg_ok hok
  have hv : OneP (unV KkR (bwF mone64 one64 q.x) (bwF mone64 one64 q.y) (bwF d64 one64 q.z)) := un_ok bwN1 bwN1 bwN2.1 bwN2.2
  have hB : unB (bwF mone64 one64 q.x) (bwF mone64 one64 q.y) (bwF d64 one64 q.z) = true := un_B bwN1 bwN1 bwN2.1 bwN2.2
  have hZ : z64.k < (bwF d64 one64 q.z).k := by have := of_decide_eq_false (bw_up q.z); omega
  have nx := bw_ne hq.x
  have ny := bw_ne hq.y
  obtain ⟨o1, p1⟩ := dw_ok hl hok hB hZ (dirP_of hv) hq.a hq.b hq.c
  obtain ⟨o2, p2⟩ := dw_ok hl hok hB hZ (dirP_of hv) hq.a hq.d hq.e
  have eA : wA WxR pc n q (wbX WxR q) (wbY WxR q) (wbZz WxR q) = dwF DwN pc n (bwF mone64 one64 q.x) (bwF mone64 one64 q.y) (bwF d64 one64 q.z) q.a q.b q.c := by
    show dwF DwN (wbC1 pc n) n _ _ _ _ _ _ = _
    rw [hP]; rfl
  have eB : wB WxR pc n q (wbX WxR q) (wbY WxR q) (wbZz WxR q) = dwF DwN pc n (bwF mone64 one64 q.x) (bwF mone64 one64 q.y) (bwF d64 one64 q.z) q.a q.d q.e := by
    show dwF DwN (wbC1 pc n) n _ _ _ _ _ _ = _
    rw [hP]; rfl
  rw [← eA] at p1
  rw [← eB] at p2
  have oP : ObsOk (wbP WxR pc n q (wbX WxR q) (wbY WxR q) (wbZz WxR q) (wA WxR pc n q (wbX WxR q) (wbY WxR q) (wbZz WxR q)).s (wB WxR pc n q (wbX WxR q) (wbY WxR q) (wbZz WxR q)).s) := by
    unfold wbP
    rw [hP]
    exact ob_c hok (ob_a (ob_a o2 (ob_c rfl ob_n)) (ob_a (ob_a o1 (ob_c rfl ob_n)) ob_n))
  clear eA eB o1 o2
  have hAs : (wA WxR pc n q (wbX WxR q) (wbY WxR q) (wbZz WxR q)) = wA WxR pc n q (wbX WxR q) (wbY WxR q) (wbZz WxR q) := rfl
  unfold WbOk wbO wkO
  generalize wA WxR pc n q (wbX WxR q) (wbY WxR q) (wbZz WxR q) = A at *
  generalize wB WxR pc n q (wbX WxR q) (wbY WxR q) (wbZz WxR q) = B at *
  obtain ⟨e, he⟩ := e3_of p1.er
  obtain ⟨f, hf⟩ := e3_of p2.er
  by_cases hne : e ≠ .z ∨ f ≠ .z
  · left
    refine ⟨A.s, B.s, e, f, hne, ?_⟩
    rw [he, hf]
    exact ob_a (cdO_ok f) (ob_a (cdO_ok e) (ob_a (neO_ok hne) oP))
  · right
    have ez : e = .z := Classical.byContradiction fun h => hne (.inl h)
    have fz : f = .z := Classical.byContradiction fun h => hne (.inr h)
    subst ez fz
    have he0 : A.e = 0 := he
    have hf0 : B.e = 0 := hf
    obtain ⟨a0, a1, a2, a3⟩ := p1.a he0
    obtain ⟨b0, b1, b2, b3⟩ := p2.a hf0
    have hss : B.s = A.s := by rw [a3, b3]
    rw [hss] at oP
    have hrow := K.row A.a.toNat (by omega)
    have ix : ObsOk (ixN pc n A.a) := ob_c (ck_hd hrow) (ob_c (ix_of a0 a1) ob_n)
    have hk : (ndR pc (A.a.toNat * 19)).k = inAt pc (A.a.toNat * 19) := rfl
    have pre : ∀ {b : Bool}, (A.k == 1) = b → (B.k == 1) = b → ObsOk ([(decide ((n : Int) ≤ A.a), false), (decide (A.a < 0), false), (B.k == 1, b), (A.k == 1, b), (A.a != B.a, false), (B.e != 0, false), (A.e != 0, false)] ++ wbP WxR pc n q (wbX WxR q) (wbY WxR q) (wbZz WxR q) A.s A.s) := fun h1 h2 =>
      ob_a (ob_c (decide_eq_false (by omega)) (ob_c (decide_eq_false (by omega)) (ob_c h2 (ob_c h1 (ob_c (by rw [a2, b2]; simp) (ob_c (ne_0 hf0) (ob_c (ne_0 he0) ob_n))))))) oP
    cases hg : (dwP DwN pc n (bwF mone64 one64 q.x) (bwF mone64 one64 q.y) (bwF d64 one64 q.z) q.a).g
    · obtain ⟨l5, l6, hA⟩ := p1.l he0 hg
      obtain ⟨_, _, hBk⟩ := p2.l hf0 hg
      have kB : (B.k == 1) = false := by rcases hBk with ⟨h, _⟩ | ⟨h, _⟩ <;> rw [h] <;> rfl
      have hnd := K.nd A.a.toNat (by omega)
      have hk4 : inAt pc (A.a.toNat * 19) ≤ 4 := by
        rw [← hk]
        rcases rt_kind (nd_leaf hnd l5 l6) with h | h | h | h <;> omega
      rcases hA with ⟨k0, hp, hb⟩ | ⟨k2, hu, hz, i1, i2, i3⟩
      · refine ⟨A.s, .f, ob_a ?_ (pre (b := false) (by rw [k0]; rfl) kB)⟩
        exact ob_c (by rw [hb]; exact eqV3_r _) (ob_c (by rw [hp]; exact eqF3_r _) (ob_c (decide_eq_true hk4) (ob_a ix (ob_c (beq_t k0) ob_n))))
      · refine ⟨A.s, .d, ob_a ?_ (pre (b := false) (by rw [k2]; rfl) kB)⟩
        exact ob_a (ob_c (decide_eq_true i3.2) (ob_c (decide_eq_true i3.1) (ob_c (decide_eq_true i2.2) (ob_c (decide_eq_true i2.1) (ob_c (decide_eq_true i1.2) (ob_c (decide_eq_true i1.1) (ob_c (decide_eq_true hz) (ob_c (decide_eq_true hk4) ob_n)))))))) (ob_a ix (ob_c hu (ob_c (by rw [k2]; rfl) (ob_c (by rw [k2]; rfl) ob_n))))
    · obtain ⟨hA, hk6⟩ := p1.m he0 hg
      obtain ⟨hBm, _⟩ := p2.m hf0 hg
      have hAB : B = A := by rw [hA, hBm]
      have k1 : A.k = 1 := by rw [hA]
      have hp : A.p = ((bwF mone64 one64 q.x).neg, (bwF mone64 one64 q.y).neg, bwF d64 one64 q.z) := by rw [hA]
      refine ⟨A.s, .m, ob_a ?_ (pre (b := true) (by rw [k1]; rfl) (by rw [hAB, k1]; rfl))⟩
      rw [hAB]
      refine ob_c ?_ (ob_c ?_ (ob_c ?_ (ob_c ?_ (ob_c ?_ (ob_a ix (ob_c (beq_t k1) (ob_c (by rw [k1]; rfl) ob_n)))))))
      · unfold eqDr
        rw [eqF3_r, eqV3_r]; simp
      · show eqF3 A.p ((bwF mone64 one64 q.x).neg, (bwF mone64 one64 q.y).neg, bwF d64 one64 q.z) = true
        rw [hp]; exact eqF3_r _
      · show (!decide ((bwF mone64 one64 q.y).k = 0)) = true
        rw [decide_eq_false ny]; rfl
      · show (!decide ((bwF mone64 one64 q.x).k = 0)) = true
        rw [decide_eq_false nx]; rfl
      · rw [← hk, hk6]; rfl
theorem drawBox_someq {el : TypeId} {z : Nat × Nat} {cells : List SV} {off len cap : Nat} {q : B8} {m : Nms} {w : World} {vs : List Value} (hM : MemAt m w [⟨el, cells, .ro z⟩]) (hvs : dens m (.ssl 0 off len cap :: q.args) = some vs)
    (hc : len ≤ cap) (hb : prInB NprR ((cells.drop off).take (len * 8)) len = true) (hq : q.Ok) :
    Calls Tryz.prog 6 vs.toArray w fun e w' => e = .returned (.bool true) ∧ Below w.heap.size w w' := by
  obtain ⟨a, b⟩ := prog_ok hb
  exact wb_calls oracleBx hM hvs hc hb (dirU_ok hq.x hq.y hq.z) (wb_ok (prgC_len _ _ _) a (by omega) hq)
theorem drawBox_noneq {q : B8} {w : World} {vs : List Value} (hvs : dens Nms.no (.o (.slice none 0 0) :: q.args) = some vs) (hq : q.Ok) :
    Calls Tryz.prog 6 vs.toArray w fun e w' => e = .returned (.bool true) ∧ Below w.heap.size w w' := by
  obtain ⟨a, b⟩ := prog_ok (cs := []) (len := 0) rfl
  exact wb_nil oracleBx hvs (dirU_ok hq.x hq.y hq.z) (wb_ok (prgC_len _ _ _) a (by omega) hq)
theorem drawBox_some {el : TypeId} {z0 : Nat × Nat} {cells : List SV} {off len cap : Nat} {x y z a b c d e : Int} {m : Nms} {w : World} {vs : List Value} (hM : MemAt m w [⟨el, cells, .ro z0⟩]) (hvs : dens m [.ssl 0 off len cap, .agg [.si .u32 x, .si .u32 y, .si .u32 z], .agg [.si .u64 a, .si .u64 b, .si .u64 c], .si .u64 d, .si .u64 e] = some vs)
    (hc : len ≤ cap) (hb : prInB NprR ((cells.drop off).take (len * 8)) len = true) (hx : wN32 x = true) (hy : wN32 y = true) (hz : wN32 z = true) (ha : u64P a) (hb_ : u64P b) (hc_ : u64P c) (hd : u64P d) (he : u64P e) :
    Calls Tryz.prog 6 vs.toArray w fun e w' => e = .returned (.bool true) ∧ Below w.heap.size w w' := drawBox_someq (q := ⟨x, y, z, a, b, c, d, e⟩) hM hvs hc hb ⟨hx, hy, hz, ha, hb_, hc_, hd, he⟩
theorem drawBox_none {x y z a b c d e : Int} {w : World} {vs : List Value} (hvs : dens Nms.no [.o (.slice none 0 0), .agg [.si .u32 x, .si .u32 y, .si .u32 z], .agg [.si .u64 a, .si .u64 b, .si .u64 c], .si .u64 d, .si .u64 e] = some vs) (hx : wN32 x = true) (hy : wN32 y = true) (hz : wN32 z = true) (ha : u64P a) (hb_ : u64P b) (hc_ : u64P c) (hd : u64P d) (he : u64P e) :
    Calls Tryz.prog 6 vs.toArray w fun e w' => e = .returned (.bool true) ∧ Below w.heap.size w w' := drawBox_noneq (q := ⟨x, y, z, a, b, c, d, e⟩) hvs ⟨hx, hy, hz, ha, hb_, hc_, hd, he⟩
end Go.Proofs.YtgjohjgmlleebaaGreat
