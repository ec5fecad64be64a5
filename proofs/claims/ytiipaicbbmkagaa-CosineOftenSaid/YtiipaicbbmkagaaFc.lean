/- The bits of a number, as Go's text takes them apart. -/
import Derived.Test.YtiipaicbbmkagaaFn
import Derived.Test.YtiipaicbbmkagaaFa
import Derived.Laws.BitsAll
import Derived.RowKit
import Derived.Laws.BitsLemmas
namespace Bu
set_option linter.all false
open Go Go.RowKit

theorem and_mask (x n : Nat) (hx : x < 18446744073709551616) (hn : n ≤ 63) : bits BinOp.and IntKind.u64 (x : Int) (((2 ^ n - 1 : Nat) : Int)) = ((x % 2 ^ n : Nat) : Int) := by
  have h1 : 2 ^ n ≤ 2 ^ 63 := Nat.pow_le_pow_right (by omega) hn
  rw [u64_and_nat _ _ hx (by omega), Nat.and_two_pow_sub_one_eq_mod]

/-- the bits of a number: fraction, exponent -/
theorem b_parts (x : F) : x.b % P = x.k.natAbs % P ∧ x.b / P % 2048 = x.k.natAbs / P ∧ x.k.natAbs / P < 2047 := by
  have h1 := x.hk
  have e := T_num
  unfold F.b P
  split <;> omega

theorem b_frac (x : F) : bits BinOp.and IntKind.u64 (x.b : Int) 4503599627370495 = ((x.k.natAbs % P : Nat) : Int) := by
  have h := and_mask x.b 52 (by have := x.b_lt; omega) (by omega)
  rw [show ((2 ^ 52 - 1 : Nat) : Int) = 4503599627370495 from by decide, ← P_eq, (b_parts x).1] at h
  exact h
theorem b_exp (x : F) : bits BinOp.and IntKind.u64 ((x.b : Int) / 4503599627370496) 2047 = ((x.k.natAbs / P : Nat) : Int) := by
  have h := and_mask (x.b / P) 11 (by have := x.b_lt; have := Nat.div_le_self x.b P; omega) (by omega)
  rw [show ((2 ^ 11 - 1 : Nat) : Int) = 2047 from by decide, show 2 ^ 11 = 2048 from rfl, (b_parts x).2.1] at h
  rw [show (x.b : Int) / 4503599627370496 = ((x.b / P : Nat) : Int) from by rw [P]; omega]
  exact h
theorem or_hid (x : Nat) : bits BinOp.or IntKind.u64 ((x % P : Nat) : Int) 4503599627370496 = ((P + x % P : Nat) : Int) := by
  have h1 : x % P < P := Nat.mod_lt _ P_pos
  have e : P = 4503599627370496 := rfl
  have h := u64_or_nat (x % P) 4503599627370496 (by omega) (by omega)
  rw [Nat.or_comm, nat_join 52 4503599627370496 (x % P) (by decide) (by rw [← P_eq]; exact h1)] at h
  rw [show ((4503599627370496 : Int)) = ((4503599627370496 : Nat) : Int) from rfl, h]
  rfl

theorem i64_and_nat (a b : Nat) (ha : a < 9223372036854775808) (hb : b < 9223372036854775808) : bits .and .i64 (a : Int) (b : Int) = ((a &&& b : Nat) : Int) := by
  have hx : a &&& b < 2 ^ 63 := Nat.and_lt_two_pow _ (by omega)
  show IntKind.i64.wrap ((BitVec.ofInt 64 (a : Int) &&& BitVec.ofInt 64 (b : Int)).toNat : Int) = _
  rw [BitVec.toNat_and, ofInt_u64 a (by omega), ofInt_u64 b (by omega)]
  rw [IntKind.wrap_i64]
  omega

theorem b_exp_i (x : F) : bits BinOp.and IntKind.i64 (wrap64 ((x.b : Int) / 4503599627370496)) 2047 = ((x.k.natAbs / P : Nat) : Int) := by
  have hlt := x.b_lt
  have e : P = 4503599627370496 := rfl
  have h := i64_and_nat (x.b / P) 2047 (by rw [e]; omega) (by omega)
  rw [show (2047 : Nat) = 2 ^ 11 - 1 from rfl, Nat.and_two_pow_sub_one_eq_mod, show 2 ^ 11 = 2048 from rfl, (b_parts x).2.1] at h
  rw [show wrap64 ((x.b : Int) / 4503599627370496) = ((x.b / P : Nat) : Int) from by rw [e]; unfold wrap64; omega]
  exact h

/-- a number of the sign of another one, of a rung -/
def F.like (x : F) (r : Nat) : F := F.of (if x.k < 0 then -(r : Int) else r)
theorem F.like_b (x : F) (r : Nat) (h0 : r ≠ 0) (h : r < T) : (x.like r).b = (if x.k < 0 then 9223372036854775808 else 0) + r := by
  unfold F.like F.b
  by_cases hx : x.k < 0
  · simp only [if_pos hx]; rw [F.of_k (by omega), if_neg (by omega)]; omega
  · simp only [if_neg hx]; rw [F.of_k (by omega), if_pos (by omega)]; omega
theorem F.like_z (x : F) (r : Nat) (h : r < T) : (x.like r).z = if x.k < 0 then -(nv r : Int) else nv r := by
  unfold F.like F.z
  rw [F.of_k (by split <;> omega)]
  by_cases hx : x.k < 0
  · simp only [if_pos hx]; rw [nvZ_neg, nvZ_natCast]
  · simp only [if_neg hx]; rw [nvZ_natCast]
theorem F.z_like (x : F) : x.z = if x.k < 0 then -(nv x.k.natAbs : Int) else nv x.k.natAbs := by
  have h1 := z_natAbs' x
  have h2 := z_sign x
  split <;> omega

theorem b_sign (x : F) : x.b / 9223372036854775808 % 2 * 9223372036854775808 = if x.k < 0 then 9223372036854775808 else 0 := by
  have h1 := x.hk
  have e := T_num
  unfold F.b
  split <;> split <;> omega

theorem ldexp_bits (x : F) (f : Nat) (h1 : 1 ≤ f) (h2 : f ≤ 2046) :
    bits BinOp.or IntKind.u64 (bits BinOp.andNot IntKind.u64 (x.b : Int) 9218868437227405312) (IntKind.u64.wrap ((f : Int) * 4503599627370496)) = ((x.like (f * P + x.k.natAbs % P)).b : Int) := by
  have hlt := x.b_lt
  have eP : P = 4503599627370496 := rfl
  have eT := T_num
  have hm := Nat.mod_lt x.k.natAbs P_pos
  have a1 := u64_andNot_nat x.b 9218868437227405312 (by omega) (by omega)
  rw [show (18446744073709551615 - 9218868437227405312 : Nat) = 2 ^ 63 ||| (2 ^ 52 - 1) from by decide, Nat.and_or_distrib_left, nat_bit 63, Nat.and_two_pow_sub_one_eq_mod] at a1
  rw [show (2 : Nat) ^ 63 = 9223372036854775808 from rfl, show (2 : Nat) ^ 52 = P from rfl, b_sign x, (b_parts x).1] at a1
  have hfP : f * P ≤ 2046 * P := Nat.mul_le_mul_right _ h2
  have hfP1 : 1 * P ≤ f * P := Nat.mul_le_mul_right _ h1
  have a2 : IntKind.u64.wrap ((f : Int) * 4503599627370496) = ((f * P : Nat) : Int) := by
    rw [IntKind.wrap_u64, eP]
    rw [eP] at hfP
    omega
  rw [a2, show ((9218868437227405312 : Int)) = ((9218868437227405312 : Nat) : Int) from rfl, a1]
  have hs : (if x.k < 0 then 9223372036854775808 else 0 : Nat) = 9223372036854775808 ∨ (if x.k < 0 then 9223372036854775808 else 0 : Nat) = 0 := by split <;> simp
  rw [F.like_b x _ (by omega) (by omega)]
  generalize (if x.k < 0 then 9223372036854775808 else 0 : Nat) = sg at *
  generalize x.k.natAbs % P = m at *
  have j1 : f * P ||| m = f * P + m := nat_join 52 (f * P) m (by rw [show P = 2 ^ 52 from rfl]; exact Nat.mul_mod_left _ _) hm
  have j2 : sg ||| (f * P + m) = sg + (f * P + m) := nat_join 63 sg (f * P + m) (by rcases hs with h | h <;> rw [h] <;> rfl) (by omega)
  have j3 : sg ||| m = sg + m := nat_join 63 sg m (by rcases hs with h | h <;> rw [h] <;> rfl) (by omega)
  have b1 : sg ||| m < 18446744073709551616 := by omega
  rw [u64_or_nat _ _ b1 (by omega), Nat.or_assoc, Nat.or_comm m, j1, j2]



theorem nv_fl_exact {m s : Nat} (h : m ≤ 2 * P) : nv (fl (m * 2 ^ s)) = m * 2 ^ s := by
  by_cases h0 : m = 0
  · subst h0; rw [Nat.zero_mul, fl_zero, nv_zero]
  by_cases h2 : m = 2 * P
  · have e : m * 2 ^ s = P * 2 ^ (s + 1) := by rw [h2, Nat.pow_succ]; grind
    rw [e]
    have := nv_mk (s + 1) P (by omega) (Or.inr (Nat.le_refl _))
    rw [← this, fl_nv]
  · -- m below 2P: lift m into the binade
    have hl := Nat.lt_log2_self (n := m)
    have hl2 := Nat.log2_self_le h0
    have hlt : m < 2 ^ 53 := by rw [show (2 : Nat) ^ 53 = 2 * P from rfl]; omega
    have hle : m.log2 ≤ 52 := by
      by_cases c : m.log2 ≤ 52
      · exact c
      · have : 2 ^ 53 ≤ 2 ^ m.log2 := Nat.pow_le_pow_right (by omega) (by omega)
        omega
    obtain ⟨t, ht⟩ : ∃ t, t = min s (52 - m.log2) := ⟨_, rfl⟩
    have e : m * 2 ^ s = (m * 2 ^ t) * 2 ^ (s - t) := by
      rw [Nat.mul_assoc, ← Nat.pow_add]; congr 2; omega
    have hb : m * 2 ^ t < 2 * P := by
      rw [show 2 * P = 2 ^ 53 from rfl]
      refine Nat.lt_of_lt_of_le (Nat.mul_lt_mul_of_pos_right hl (Nat.two_pow_pos t)) ?_
      rw [← Nat.pow_add]
      exact Nat.pow_le_pow_right (by omega) (by omega)
    have hc : s - t = 0 ∨ P ≤ m * 2 ^ t := by
      by_cases c : s ≤ 52 - m.log2
      · left; omega
      · right
        rw [P_eq]
        refine Nat.le_trans ?_ (Nat.mul_le_mul_right (2 ^ t) hl2)
        rw [← Nat.pow_add]
        exact Nat.pow_le_pow_right (by omega) (by omega)
    rw [e, ← nv_mk (s - t) (m * 2 ^ t) (by omega) hc, fl_nv]

theorem nv_T : nv T = P * 2 ^ 2046 := by
  have := nv_mk 2046 P (by omega) (Or.inr (Nat.le_refl _))
  rw [← this]
  rfl

theorem man_norm {r : Nat} (h : P ≤ r) : man r = P + r % P := by unfold man; rw [if_neg (by omega)]
theorem nv_norm {r : Nat} (h : P ≤ r) : nv r = (P + r % P) * 2 ^ (r / P - 1) := by unfold nv; rw [man_norm h]; rfl

/-- y is x times 2^n -/
def Sc (x y : F) (n : Int) : Prop := y.z * ((2 ^ (-n).toNat : Nat) : Int) = x.z * ((2 ^ n.toNat : Nat) : Int)

theorem Sc.abs {x y : F} {n : Int} (h : Sc x y n) : nv y.k.natAbs * 2 ^ (-n).toNat = nv x.k.natAbs * 2 ^ n.toNat := by
  have h2 := congrArg Int.natAbs h
  rw [Int.natAbs_mul, Int.natAbs_mul, Int.natAbs_natCast, Int.natAbs_natCast, z_natAbs', z_natAbs'] at h2
  exact h2
theorem Sc.sign {x y : F} {n : Int} (h : Sc x y n) : (y.k < 0 ↔ x.k < 0) := by
  have h1 := z_sign x
  have h2 := z_sign y
  unfold Sc at h
  have p1 : (0 : Int) < ((2 ^ (-n).toNat : Nat) : Int) := by have := Nat.two_pow_pos (-n).toNat; omega
  have p2 : (0 : Int) < ((2 ^ n.toNat : Nat) : Int) := by have := Nat.two_pow_pos n.toNat; omega
  have a := Int.mul_lt_mul_right (b := y.z) (c := 0) p1
  have b := Int.mul_lt_mul_right (b := x.z) (c := 0) p2
  rw [Int.zero_mul] at a b
  rw [h] at a
  omega

/-- what ldexp comes to: which rung -/
theorem ldexp_parts {x x' y : F} {n c : Int} (h : Sc x y n) (hx : x.k ≠ 0) (hc : c ≤ 0) (hN : P ≤ x'.k.natAbs) (hxx : nv x'.k.natAbs = nv x.k.natAbs * 2 ^ (-c).toNat) (hs : x'.k < 0 ↔ x.k < 0) :
    let f := n + c + ((x'.k.natAbs / P : Nat) : Int)
    (1 ≤ f ∧ f ≤ 2046 ∧ y = x'.like (f.toNat * P + x'.k.natAbs % P)) ∨
    (1 ≤ f + 53 ∧ f + 53 ≤ 53 ∧ (x'.like ((f + 53).toNat * P + x'.k.natAbs % P)).z = y.z * 9007199254740992) := by
  intro f
  have hab := h.abs
  have hsg := h.sign
  have hP := P_pos
  have hm := Nat.mod_lt x'.k.natAbs hP
  have hq1 : 1 ≤ x'.k.natAbs / P := (Nat.le_div_iff_mul_le hP).2 (by omega)
  have hn := nv_norm hN
  obtain ⟨q, hq⟩ : ∃ q, x'.k.natAbs / P = q + 1 := ⟨x'.k.natAbs / P - 1, by omega⟩
  have hfe : f = n + c + (q + 1 : Nat) := by show n + c + ((x'.k.natAbs / P : Nat) : Int) = _; rw [hq]
  rw [hq, Nat.add_sub_cancel] at hn
  clear_value f
  generalize x'.k.natAbs % P = fr at *
  -- y 2^A = (P + fr) 2^B
  have hAB : nv y.k.natAbs * 2 ^ ((-n).toNat + (-c).toNat) = (P + fr) * 2 ^ (n.toNat + q) := by
    rw [Nat.pow_add, ← Nat.mul_assoc, hab, Nat.pow_add, Nat.mul_comm (2 ^ n.toNat) (2 ^ q), ← Nat.mul_assoc, ← hn, hxx]
    grind
  have hy0 : y.k ≠ 0 := by
    intro e
    rw [e, Int.natAbs_zero, nv_zero, Nat.zero_mul] at hab
    have : nv x.k.natAbs = 0 := by
      rcases Nat.mul_eq_zero.1 hab.symm with e | e
      · exact e
      · have := Nat.two_pow_pos n.toNat; omega
    have := nv_inj (this.trans nv_zero.symm)
    omega
  have hypos : 1 ≤ nv y.k.natAbs := by
    have := @nv_lt 0 y.k.natAbs (by omega)
    rw [nv_zero] at this; omega
  by_cases hf : 1 ≤ f
  · left
    have e1 : n.toNat + q = ((-n).toNat + (-c).toNat) + (f.toNat - 1) := by omega
    rw [e1, Nat.pow_add _ _ (f.toNat - 1), Nat.mul_comm (2 ^ _) (2 ^ (f.toNat - 1)), ← Nat.mul_assoc] at hAB
    have e2 := Nat.eq_of_mul_eq_mul_right (Nat.two_pow_pos _) hAB
    have e3 : f.toNat * P + fr = (f.toNat - 1) * P + (P + fr) := by
      obtain ⟨g, hg⟩ : ∃ g, f.toNat = g + 1 := ⟨f.toNat - 1, by omega⟩
      rw [hg, Nat.add_sub_cancel, Nat.add_mul]; omega
    have e4 : y.k.natAbs = f.toNat * P + fr := by
      apply nv_inj
      rw [e3, nv_mk _ _ (by omega) (Or.inr (by omega)), e2]
    have hyT := y.hk
    have hle : f ≤ 2046 := by
      by_cases c : f.toNat ≤ 2046
      · omega
      · have : 2047 * P ≤ f.toNat * P := Nat.mul_le_mul_right _ (by omega)
        rw [T_eq] at hyT; omega
    refine ⟨hf, hle, ?_⟩
    apply F.z_inj
    rw [F.like_z _ _ (by omega), F.z_like, e4]
    by_cases k1 : x'.k < 0
    · rw [if_pos k1, if_pos (by omega)]
    · rw [if_neg k1, if_neg (by omega)]
  · right
    have e1 : (-n).toNat + (-c).toNat = (n.toNat + q) + (1 - f).toNat := by omega
    rw [e1, Nat.pow_add _ _ (1 - f).toNat, Nat.mul_comm (2 ^ (n.toNat + q)), ← Nat.mul_assoc] at hAB
    have e2 := Nat.eq_of_mul_eq_mul_right (Nat.two_pow_pos _) hAB
    have hlt : (1 - f).toNat < 53 := by
      by_cases c : (1 - f).toNat < 53
      · exact c
      · have a1 : 2 ^ 53 ≤ 2 ^ (1 - f).toNat := Nat.pow_le_pow_right (by omega) (by omega)
        have a2 : 1 * 2 ^ (1 - f).toNat ≤ nv y.k.natAbs * 2 ^ (1 - f).toNat := Nat.mul_le_mul_right _ hypos
        rw [show (2 : Nat) ^ 53 = 2 * P from rfl] at a1
        omega
    have g1 : 1 ≤ f + 53 := by omega
    have hT : (f + 53).toNat * P + fr < T := by
      have : (f + 53).toNat * P ≤ 53 * P := Nat.mul_le_mul_right _ (by omega)
      rw [T_eq]; omega
    refine ⟨g1, by omega, ?_⟩
    rw [F.like_z _ _ hT, F.z_like y]
    have e3 : (f + 53).toNat * P + fr = ((f + 53).toNat - 1) * P + (P + fr) := by
      obtain ⟨g, hg⟩ : ∃ g, (f + 53).toNat = g + 1 := ⟨(f + 53).toNat - 1, by omega⟩
      rw [hg, Nat.add_sub_cancel, Nat.add_mul]; omega
    have e4 : nv ((f + 53).toNat * P + fr) = nv y.k.natAbs * 9007199254740992 := by
      rw [e3, nv_mk _ _ (by omega) (Or.inr (by omega)), ← e2, Nat.mul_assoc, ← Nat.pow_add]
      congr 1
      rw [show (1 - f).toNat + ((f + 53).toNat - 1) = 53 from by omega]
    rw [e4]
    by_cases k1 : x'.k < 0
    · rw [if_pos k1, if_pos (by omega)]; omega
    · rw [if_neg k1, if_neg (by omega)]; omega

/-- the number that a subnormal one is lifted to -/
theorem lift_sub (x : F) (h : x.k.natAbs < P) (h0 : x.k ≠ 0) : ∃ x' : F, x'.z = x.z * 4503599627370496 ∧ P ≤ x'.k.natAbs ∧ nv x'.k.natAbs = nv x.k.natAbs * 2 ^ 52 ∧ (x'.k < 0 ↔ x.k < 0) := by
  have e1 : nv x.k.natAbs = x.k.natAbs := by
    have := nv_mk 0 x.k.natAbs (by omega) (Or.inl rfl)
    simpa using this
  have e2 := nv_fl_exact (m := x.k.natAbs) (s := 52) (by omega)
  have hr : fl (x.k.natAbs * 2 ^ 52) < T := by
    have a1 : x.k.natAbs * 2 ^ 52 ≤ P * 2 ^ 52 := Nat.mul_le_mul_right _ (by omega)
    have a2 := fl_mono a1
    have a3 := nv_mk 52 P (by omega) (Or.inr (Nat.le_refl _))
    rw [← a3, fl_nv] at a2
    have e : P = 4503599627370496 := rfl
    have e2 := T_num
    omega
  have hP : P ≤ fl (x.k.natAbs * 2 ^ 52) := by
    rw [le_fl]
    have := nv_mk 0 P (by omega) (Or.inl rfl)
    rw [Nat.zero_mul, Nat.zero_add, Nat.pow_zero, Nat.mul_one] at this
    rw [this, P_eq]
    have : 1 * 2 ^ 52 ≤ x.k.natAbs * 2 ^ 52 := Nat.mul_le_mul_right _ (by omega)
    omega
  have hk : (x.like (fl (x.k.natAbs * 2 ^ 52))).k = if x.k < 0 then -(fl (x.k.natAbs * 2 ^ 52) : Int) else fl (x.k.natAbs * 2 ^ 52) := by
    unfold F.like; rw [F.of_k (by split <;> omega)]
  have hka : (x.like (fl (x.k.natAbs * 2 ^ 52))).k.natAbs = fl (x.k.natAbs * 2 ^ 52) := by rw [hk]; split <;> omega
  refine ⟨x.like (fl (x.k.natAbs * 2 ^ 52)), ?_, by rw [hka]; exact hP, by rw [hka, e2, e1], ?_⟩
  · rw [F.like_z _ _ hr, e2, F.z_like, e1]
    split <;> omega
  · rw [hk]
    have := P_pos
    split <;> omega

/-- the number m * 2^e (m of 53 bits, e from -1074 on, not too great) -/
def F.dy (m : Nat) (e : Int) : F := F.of (fl (m * 2 ^ (e + 1074).toNat) : Nat)

theorem dy_lt {m : Nat} {e : Int} (he : -1074 ≤ e) (h : (blen m : Int) + e ≤ 1024) : fl (m * 2 ^ (e + 1074).toNat) < T := by
  have h1 := lt_blen m
  have h2 : m * 2 ^ (e + 1074).toNat < nv T := by
    rw [nv_T]
    refine Nat.lt_of_lt_of_le (Nat.mul_lt_mul_of_pos_right h1 (Nat.two_pow_pos _)) ?_
    rw [← Nat.pow_add]
    obtain ⟨t, ht⟩ : ∃ t : Nat, t = 2046 := ⟨_, rfl⟩
    rw [← ht, show P * 2 ^ t = 2 ^ (52 + t) from by rw [Nat.pow_add]; rfl]
    exact Nat.pow_le_pow_right (by omega) (by omega)
  have h3 := nv_fl_le (m * 2 ^ (e + 1074).toNat)
  exact nv_lt_iff.1 (by omega)

theorem dy_z {m : Nat} {e : Int} (hm : m ≤ 2 * P) (he : -1074 ≤ e) (h : (blen m : Int) + e ≤ 1024) : (F.dy m e).z = ((m * 2 ^ (e + 1074).toNat : Nat) : Int) := by
  have := dy_lt he h
  unfold F.dy F.z
  rw [F.of_k (by omega), nvZ_natCast, nv_fl_exact hm]

theorem dy_k {m : Nat} {e : Int} (he : -1074 ≤ e) (h : (blen m : Int) + e ≤ 1024) : (F.dy m e).k = (fl (m * 2 ^ (e + 1074).toNat) : Nat) := by
  have := dy_lt he h
  unfold F.dy
  rw [F.of_k (by omega)]

theorem blen_2P {m : Nat} (hm : m ≤ 2 * P) : blen m ≤ 54 := by
  apply blen_le
  have : P = 4503599627370496 := rfl
  omega

theorem nat_z {m : Nat} (hm : m ≤ 2 * P) : (F.dy m 0).z = (m : Int) * S := by
  have := blen_2P hm
  rw [dy_z hm (by omega) (by omega)]
  obtain ⟨s, hs, e⟩ := S_pow
  rw [e, show ((0 : Int) + 1074).toNat = s from by omega]
  simp

theorem nat_conv {m : Nat} (hm : m ≤ 2 * P) : Ieee.double.write (.number (decide ((m : Int) < 0)) (m : Int).natAbs 0) = (F.dy m 0).b :=
  ofInt_exact (nat_z hm)

theorem nat_Sc {m : Nat} {e : Int} (hm : m ≤ 2 * P) (he : -1074 ≤ e) (h : (blen m : Int) + e ≤ 1024) : Sc (F.dy m 0) (F.dy m e) e := by
  unfold Sc
  rw [nat_z hm, dy_z hm he h]
  obtain ⟨s, hs, e2⟩ := S_pow
  rw [e2, ← Int.natCast_mul, ← Int.natCast_mul, ← Int.natCast_mul, Nat.mul_assoc, Nat.mul_assoc, ← Nat.pow_add, ← Nat.pow_add]
  rw [show (e + 1074).toNat + (-e).toNat = s + e.toNat from by omega]

theorem dy_max : F.dy 9007199254740991 971 = F.max := by decide +kernel

/-- x, turned if so -/
def F.turn (minus : Bool) (x : F) : F := if minus then x.neg else x

/-- what a magnitude, rounded to a whole number m, by a power of two comes to -/
def rndOut (minus away : Bool) (m : Nat) (e : Int) : F × Int :=
  if m = 0 then (F.zero, 0) else if 1024 < (blen m : Int) + e then (if away then (F.zero, 10) else (F.turn minus F.max, 0)) else (F.turn minus (F.dy m e), 0)

theorem xor_top (r : Nat) (h : r < 2 ^ 63) : r ^^^ 2 ^ 63 = 2 ^ 63 + r := by
  have e0 := Nat.two_pow_add_eq_or_of_lt h 1
  rw [Nat.mul_one] at e0
  rw [e0]
  apply Nat.eq_of_testBit_eq
  intro i
  rw [Nat.testBit_xor, Nat.testBit_or, Nat.testBit_two_pow]
  by_cases e : 63 = i
  · subst e; rw [Nat.testBit_lt_two_pow h]; rfl
  · simp [e]

theorem negFloat_F (x : F) (h : x.k ≠ 0) : Op.negFloat .f64 x.b = x.neg.b := by
  show x.b ^^^ 2 ^ 63 = x.neg.b
  have h1 := x.hk
  have e := T_num
  unfold F.neg F.b
  simp only
  by_cases h2 : 0 ≤ x.k
  · rw [if_pos h2, if_neg (by omega), xor_top _ (by omega)]
    omega
  · rw [if_neg h2, if_pos (by omega)]
    have := xor_top (-x.k).toNat (by omega)
    rw [show 9223372036854775808 + (-x.k).toNat = (-x.k).toNat ^^^ 2 ^ 63 from this.symm, Nat.xor_assoc, Nat.xor_self, Nat.xor_zero]

theorem F.max_k : F.max.k = 9218868437227405311 := rfl
theorem F.turn_k0 (b : Bool) (x : F) (h : x.k ≠ 0) : (F.turn b x).k ≠ 0 := by
  unfold F.turn; cases b
  · exact h
  · show -x.k ≠ 0; omega
theorem dy_pos {m : Nat} {e : Int} (hm : m ≤ 2 * P) (h0 : m ≠ 0) (he : -1074 ≤ e) (h : (blen m : Int) + e ≤ 1024) : (F.dy m e).k ≠ 0 := by
  intro c
  have h1 := (z_zero _).2 c
  rw [dy_z hm he h] at h1
  have h2 : m * 2 ^ (e + 1074).toNat ≠ 0 := Nat.mul_ne_zero h0 (by have := Nat.two_pow_pos (e + 1074).toNat; omega)
  omega
/-- the whole number that a magnitude is rounded to -/
def mUp (minus more up lost : Bool) (m0 : Nat) : Nat := if (up != minus) && (lost || more) then m0 + 1 else m0

/-- what 'rounded' comes to, as the text goes -/
def rndG (minus : Bool) (n : Nat) (more : Bool) (e : Int) (up : Bool) : F × Int :=
  rndOut minus (up != minus) (mUp minus more up (decide (n % 2 ^ cutN n e ≠ 0)) (n / 2 ^ cutN n e)) (e + cutN n e)
theorem turn_false (x : F) : F.turn false x = x := rfl
theorem turn_true (x : F) : F.turn true x = x.neg := rfl
attribute [irreducible] F.dy F.turn
end Bu
