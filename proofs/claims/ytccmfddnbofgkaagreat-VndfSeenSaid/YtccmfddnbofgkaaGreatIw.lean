/- The nearest sum, and difference: as rounding. TrigParts, plain: how far a part's sine and cosine reach; numbers that are turned exactly. A number of an interval, by parts of 2^16 (Between); what TrigParts asks. TrigParts, plain: what is asked of sums, parts, turns. -/
import Derived.Test.YtccmfddnbofgkaaGreatIr
import Derived.Test.YtccmfddnbofgkaaGreatFs
import Derived.Test.YtccmfddnbofgkaaGreatIj
namespace Bu
set_option linter.all false
open Rx Go Ieee

/-- rounded to one side or the other -/
structure Nr (D : F) (v : Rat) : Prop where
  up : ∀ c : F, v ≤ c.q → D.q ≤ c.q
  dn : ∀ c : F, c.q ≤ v → c.q ≤ D.q
theorem z_lt_q {a : F} {d : Int} : a.z ≤ d ↔ a.q ≤ (d : Rat) / (S : Rat) := by
  have h := @z_le_iff a d 1 (by decide)
  rw [show ((1 : Nat) : Int) = 1 from rfl, Int.mul_one, show ((1 : Nat) : Rat) = 1 from rfl, Rat.mul_one] at h
  exact h
theorem z_gt_q {a : F} {d : Int} : d ≤ a.z ↔ (d : Rat) / (S : Rat) ≤ a.q := by
  have h := @rat_le_iff a d 1 (by decide)
  rw [show ((1 : Nat) : Int) = 1 from rfl, Int.mul_one, show ((1 : Nat) : Rat) = 1 from rfl, Rat.mul_one] at h
  exact h
theorem nvk {c : F} (h : 0 ≤ c.k) : (nv c.k.natAbs : Int) = c.z := by
  have e := nvZ_natCast c.k.natAbs
  have : ((c.k.natAbs : Nat) : Int) = c.k := by omega
  rw [this] at e
  exact e.symm
/-- a whole number of the least places, rounded -/
theorem nr_of {d : Int} {g : F} (hd : d ≠ 0) (hg : (d.natAbs : Int) ≤ g.z) : ∃ D : F, double.word (decide (d < 0)) (min (near d.natAbs 1) T) = D.b ∧ Nr D ((d : Rat) / (S : Rat)) := by
  have hg0 : 0 ≤ g.k := by
    have : 0 < g.z := by omega
    have a := z_sign g; have b := z_zero g
    omega
  have hT := g.hk
  have key : ∀ c : F, 0 ≤ c.k → ((d.natAbs : Int) ≤ c.z → near d.natAbs 1 ≤ c.k.natAbs) ∧ (c.z ≤ (d.natAbs : Int) → c.k.natAbs ≤ near d.natAbs 1) := by
    intro c hc
    have e := nvk hc
    exact ⟨fun h => near_le (by decide) (by omega), fun h => le_near (by decide) (by omega)⟩
  have k0 := (key g hg0).1 hg
  have hpos : 1 ≤ near d.natAbs 1 := by
    have h1 : nv 1 = 1 := by decide
    exact le_near (by decide) (by rw [h1]; omega)
  rw [Nat.min_eq_left (by omega)]
  rcases Int.lt_or_gt_of_ne hd with h | h
  · rw [decide_eq_true h, word_F _ _ (by omega) (by intro _; omega), if_pos rfl]
    refine ⟨_, rfl, ?_, ?_⟩
    · intro c hc
      rw [← z_gt_q] at hc
      rw [q_le, F.of_k (by omega)]
      rcases (show c.k < 0 ∨ 0 ≤ c.k by omega) with s | s
      · have := (key c.neg (by rw [F.neg_k]; omega)).2 (by rw [F.neg_z]; omega)
        rw [F.neg_k] at this; omega
      · omega
    · intro c hc
      rw [← z_lt_q] at hc
      rw [q_le, F.of_k (by omega)]
      have a := z_sign c
      have := (key c.neg (by rw [F.neg_k]; omega)).1 (by rw [F.neg_z]; omega)
      rw [F.neg_k] at this; omega
  · rw [decide_eq_false (by omega), word_F _ _ (by omega) (by simp), if_neg (by decide)]
    refine ⟨_, rfl, ?_, ?_⟩
    · intro c hc
      rw [← z_gt_q] at hc
      rw [q_le, F.of_k (by omega)]
      have a := z_sign c; have b := z_zero c
      have := (key c (by omega)).1 (by omega)
      omega
    · intro c hc
      rw [← z_lt_q] at hc
      rw [q_le, F.of_k (by omega)]
      rcases (show c.k < 0 ∨ 0 ≤ c.k by omega) with s | s
      · omega
      · have := (key c s).2 (by omega)
        omega
theorem nr_zero : Nr F.zero 0 := ⟨fun c h => by rw [q_zero]; exact h, fun c h => by rw [q_zero]; exact h⟩
theorem z_diff' {x y c : F} (h : x.q - y.q ≤ c.q) : x.z - y.z ≤ c.z := by
  have h1 := Rat.mul_nonneg (show 0 ≤ c.q - (x.q - y.q) by grind) (Rat.le_of_lt S_gt)
  have e1 := F.q_mul x; have e2 := F.q_mul y; have e3 := F.q_mul c
  have h2 : ((x.z - y.z : Int) : Rat) ≤ ((c.z : Int) : Rat) := by
    rw [Rat.intCast_sub, ← e1, ← e2, ← e3]
    generalize (S : Rat) = s at *
    grind
  exact Rat.intCast_le_intCast.1 h2
theorem sub_nr {x y g : F} (h1 : x.q - y.q ≤ g.q) (h2 : y.q - x.q ≤ g.q) : ∃ D : F, double.sub x.b y.b = some D.b ∧ Nr D (x.q - y.q) := by
  have e : x.q - y.q = ((x.z - y.z : Int) : Rat) / (S : Rat) := by have := sub_v x y; rw [show ((1 : Nat) : Rat) = 1 from rfl, Rat.mul_one] at this; exact this.symm
  rw [sub_F]
  by_cases c : x.z - y.z = 0
  · rw [if_pos c, e, c]
    refine ⟨F.zero, rfl, ?_⟩
    rw [show ((0 : Int) : Rat) = 0 from rfl, Rat.div_def, Rat.zero_mul]
    exact nr_zero
  · have a1 := z_diff' h1; have a2 := z_diff' h2
    obtain ⟨D, d1, d2⟩ := nr_of (g := g) c (by omega)
    rw [if_neg c, d1, e]
    exact ⟨D, rfl, d2⟩
theorem add_nr {x y g : F} (h1 : x.q + y.q ≤ g.q) (h2 : -(x.q + y.q) ≤ g.q) : ∃ D : F, double.add x.b y.b = some D.b ∧ Nr D (x.q + y.q) := by
  have e : x.q + y.q = ((x.z + y.z : Int) : Rat) / (S : Rat) := by have := add_v x y; rw [show ((1 : Nat) : Rat) = 1 from rfl, Rat.mul_one] at this; exact this.symm
  have a1 : x.z + y.z ≤ g.z := by have := z_diff' (x := x) (y := y.neg) (c := g) (by rw [q_neg]; grind); rw [F.neg_z] at this; omega
  have a2 : -(x.z + y.z) ≤ g.z := by have := z_diff' (x := x.neg) (y := y) (c := g) (by rw [q_neg]; grind); rw [F.neg_z] at this; omega
  rw [add_F]
  by_cases c : x.z + y.z = 0
  · rw [if_pos c, e, c]
    refine ⟨F.zero, rfl, ?_⟩
    rw [show ((0 : Int) : Rat) = 0 from rfl, Rat.div_def, Rat.zero_mul]
    exact nr_zero
  · obtain ⟨D, d1, d2⟩ := nr_of (g := g) c (by omega)
    rw [if_neg c, d1, e]
    exact ⟨D, rfl, d2⟩
end Bu
namespace Bu
set_option linter.all false
open Rx Go

/-- numbers from one half on lie on a grid -/
theorem halfgrid {y : F} (h : 1 / 2 ≤ y.q) : ∃ m : Nat, y.q * 9007199254740992 = (m : Rat) := by
  obtain ⟨_, _, _, _, _, g2, _, _⟩ := consts
  have k2 : q2.k = 4602678819172646912 := by decide +kernel
  have hk : 4602678819172646912 ≤ y.k := by rw [← k2]; exact q_le.1 (by grind)
  have hP : P = 4503599627370496 := rfl
  obtain ⟨r, hr⟩ := Int.eq_ofNat_of_zero_le (show 0 ≤ y.k by omega)
  have e1 : y.z = (nv r : Int) := by
    have e := nvZ_natCast r
    have : y.z = nvZ y.k := rfl
    rw [this, hr]; exact e
  have hd : 1022 ≤ r / P := by rw [hP]; omega
  rw [nv_norm (by omega)] at e1
  refine ⟨(P + r % P) * 2 ^ (r / P - 1022), ?_⟩
  have e2 := F.q_mul y
  obtain ⟨s, hs⟩ : ∃ s : Nat, s = 1021 := ⟨_, rfl⟩
  obtain ⟨u, hu, hS'⟩ := S_pow
  have hS : S = 9007199254740992 * 2 ^ s := by rw [hS', show (9007199254740992 : Nat) = 2 ^ 53 from rfl, ← Nat.pow_add]; congr 1; omega
  have e3 : 2 ^ (r / P - 1) = 2 ^ (r / P - 1022) * 2 ^ s := by rw [← Nat.pow_add]; congr 1; omega
  rw [e1, hS, e3, Rat.intCast_natCast, Rat.natCast_mul, ← Nat.mul_assoc, Rat.natCast_mul] at e2
  have hp : ((2 ^ s : Nat) : Rat) ≠ 0 := by have := pow_q s; intro h; rw [h] at this; exact absurd this Rat.lt_irrefl
  generalize (P + r % P) * 2 ^ (r / P - 1022) = M at *
  generalize ((2 ^ s : Nat) : Rat) = p at *
  have e4 : ((9007199254740992 : Nat) : Rat) = 9007199254740992 := rfl
  rw [e4] at e2
  generalize y.q = x at *
  grind
theorem half_less {y : F} (h : 1 / 2 ≤ y.q) (h1 : y.q ≤ 1) : (∃ c : F, c.q = y.q - 1 / 2) ∧ ∃ c : F, c.q = 1 - y.q := by
  obtain ⟨m, hm⟩ := halfgrid h
  have h2 : (m : Rat) ≤ ((9007199254740992 : Nat) : Rat) := by rw [← hm, show ((9007199254740992 : Nat) : Rat) = 9007199254740992 from rfl]; grind
  have h3 := Rat.natCast_le_natCast.1 h2
  have e4 : ((2 ^ 53 : Nat) : Rat) = 9007199254740992 := rfl
  constructor
  · obtain ⟨c, hc⟩ := grid ((m : Int) - 4503599627370496) (by omega) 53 (by omega) (by omega)
    refine ⟨c, ?_⟩
    rw [e4, Rat.intCast_sub, Rat.intCast_natCast, ← hm, show ((4503599627370496 : Int) : Rat) = 4503599627370496 from rfl] at hc
    grind
  · obtain ⟨c, hc⟩ := grid (9007199254740992 - (m : Int)) (by omega) 53 (by omega) (by omega)
    refine ⟨c, ?_⟩
    rw [e4, Rat.intCast_sub, Rat.intCast_natCast, ← hm, show ((9007199254740992 : Int) : Rat) = 9007199254740992 from rfl] at hc
    grind
theorem Nr.eq {D c : F} {v : Rat} (h : Nr D v) (hc : c.q = v) : D.q = v := by
  have a := h.up c (by rw [hc]; exact Rat.le_refl)
  have b := h.dn c (by rw [hc]; exact Rat.le_refl)
  grind
theorem turn_exact {x D E : F} (h0 : 0 ≤ x.q) (h1 : x.q < 1 / 2) (hD : Nr D (x.q + 1 / 2)) (hE : Nr E (D.q - 1 / 2)) (he : E.k = x.k) : D.q = x.q + 1 / 2 := by
  obtain ⟨_, _, _, _, _, g2, _, _⟩ := consts
  have a := hD.dn q2 (by grind)
  have b := hD.up one64 (by rw [one_q]; grind)
  rw [one_q] at b
  obtain ⟨⟨c, hc⟩, _⟩ := half_less (y := D) (by grind) b
  have e := hE.eq hc
  rw [F.ext' he] at e
  grind
theorem about_exact {x D E : F} (h0 : 0 ≤ x.q) (h1 : x.q ≤ 1) (hD : Nr D (1 - x.q)) (hE : Nr E (1 - D.q)) (he : E.k = x.k) : D.q = 1 - x.q := by
  obtain ⟨_, _, _, _, _, g2, _, _⟩ := consts
  rcases (Rat.le_total : 1 / 2 ≤ x.q ∨ x.q ≤ 1 / 2) with g | g
  · obtain ⟨_, ⟨c, hc⟩⟩ := half_less g h1
    exact hD.eq hc
  · have a := hD.dn q2 (by grind)
    have b := hD.up one64 (by rw [one_q]; grind)
    rw [one_q] at b
    obtain ⟨_, ⟨c, hc⟩⟩ := half_less (y := D) (by grind) b
    have e := hE.eq hc
    rw [F.ext' he] at e
    grind
def meB (a b : I) : Bool := !decide ((mnF a.hi b.hi).k < (mxF a.lo b.lo).k)
theorem meB_of {a b : I} (h1 : a.lo.q ≤ a.hi.q) (h2 : b.lo.q ≤ b.hi.q) (h3 : a.lo.q ≤ b.hi.q + 4 * eps) (h4 : b.lo.q ≤ a.hi.q + 4 * eps) : meB a b = true := by
  have a1 := q_le.1 h1; have a2 := q_le.1 h2; have a3 := grid_sep h3; have a4 := grid_sep h4
  unfold meB
  rw [decide_eq_false]; · rfl
  rw [mnF_k, mxF_k]; omega
theorem meB_mem {a b : I} {v w : Rat} (ha : Mem a v) (hb : Mem b w) (h : Nx v w) : meB a b = true := by
  have he := eps_pos
  have a1 := ha.lo; have a2 := ha.hi; have b1 := hb.lo; have b2 := hb.hi; have n1 := h.le; have n2 := h.ge
  exact meB_of (by grind) (by grind) (by grind) (by grind)
theorem topk_lo {h : Bool} {H : I} (hi : In1 H) : (topM h H oneI64).lo.k = H.lo.k := by
  cases h
  · rfl
  · show (mnF H.lo one64).k = _
    have := hi.rt; have := hi.hi
    rw [mnF_k]; omega
theorem topk_hi {h : Bool} {H : I} (hi : In1 H) : (topM h H moneI).hi.k = H.hi.k := by
  cases h
  · rfl
  · show (mxF H.hi mone64).k = _
    have := hi.rt; have := hi.lo
    rw [mxF_k]; omega
theorem has_part {a x b q : F} (h1 : x.k ≤ b.k) (h : hasB ⟨a, x⟩ q = true) : hasB ⟨a, b⟩ q = true := by
  unfold hasB rt at *
  simp only [Bool.and_eq_true, decide_eq_true_iff] at *
  omega
theorem inB_part {a x b : F} (h : inB a b = true) (h1 : a.k ≤ x.k) (h2 : x.k ≤ b.k) : inB x x = true ∧ inB a x = true := by
  unfold inB rt at *
  simp only [Bool.and_eq_true, decide_eq_true_iff] at *
  omega
/-- a part reaches next to no further -/
theorem part_far {a x b : F} (h : inB a b = true) (h1 : a.k ≤ x.k) (h2 : x.k ≤ b.k) :
    ((sinM atR a b).lo.q ≤ (sinM atR a x).lo.q + (32 * ulp + 2 * eps) ∧ (sinM atR a x).hi.q ≤ (sinM atR a b).hi.q + (32 * ulp + 2 * eps)) ∧
    (cosM atR a b).lo.q ≤ (cosM atR a x).lo.q + (32 * ulp + 2 * eps) ∧ (cosM atR a x).hi.q ≤ (cosM atR a b).hi.q + (32 * ulp + 2 * eps) := by
  have he := eps_pos
  have hu := ulp_pos
  obtain ⟨b0, _, b3⟩ := inB_q h
  have x1 := q_le.2 h1; have x2 := q_le.2 h2
  obtain ⟨⟨p1, p2⟩, p3, p4⟩ := part_bd h x1 x2
  have ex := atR_enc (x := x) (by grind) (by grind)
  have ox := atR_ok (x := x) (by grind) (by grind)
  have w1 := ox.s; have w2 := ox.o
  unfold wd at w1 w2
  have m1 := ex.s.lo; have m2 := ex.s.hi; have m3 := ex.c.lo; have m4 := ex.c.hi
  have ia := atR_in a; have ix := atR_in x; have ib := atR_in b
  have hA := hull_in ia.1 ix.1; have hB := hull_in ia.2 ix.2
  have hA2 := hull_in ia.1 ib.1; have hB2 := hull_in ia.2 ib.2
  have kq : ∀ {s t : F}, s.k ≤ t.k → s.q ≤ t.q + (32 * ulp + 2 * eps) := fun hk => by have := q_le.2 hk; grind
  refine ⟨⟨?_, ?_⟩, ?_, ?_⟩
  · cases k : hasB ⟨a, x⟩ q3
    · have e1 : (sinM atR a x).lo.k = (hullI (atR a).1 (atR x).1).lo.k := by unfold sinM sinT; rw [k]; exact topk_lo hA
      have e2 : (sinM atR a b).lo.k ≤ (atR a).1.lo.k := by
        refine Int.le_trans top_lo (Int.le_trans top_lo ?_)
        show (mnF _ _).k ≤ _; rw [mnF_k]; omega
      rw [show (hullI (atR a).1 (atR x).1).lo = mnF (atR a).1.lo (atR x).1.lo from rfl] at e1
      rcases mnF_or (atR a).1.lo (atR x).1.lo with g | g
      · rw [g] at e1; exact kq (by omega)
      · rw [g] at e1
        rw [F.ext' e1]; grind
    · exact kq (by rw [sin_bot k, sin_bot (has_part h2 k)]; exact Int.le_refl _)
  · cases k : hasB ⟨a, x⟩ q1
    · have e1 : (sinM atR a x).hi.k = (hullI (atR a).1 (atR x).1).hi.k := by unfold sinM sinT; rw [k]; exact topk_hi hA
      have e2 : (atR a).1.hi.k ≤ (sinM atR a b).hi.k := by
        refine Int.le_trans ?_ (Int.le_trans top_hi top_hi)
        show _ ≤ (mxF _ _).k; rw [mxF_k]; omega
      rw [show (hullI (atR a).1 (atR x).1).hi = mxF (atR a).1.hi (atR x).1.hi from rfl] at e1
      rcases mxF_or (atR a).1.hi (atR x).1.hi with g | g
      · rw [g] at e1; exact kq (by omega)
      · rw [g] at e1
        rw [F.ext' e1]; grind
    · exact kq (by rw [sin_top k, sin_top (has_part h2 k)]; exact Int.le_refl _)
  · cases k : hasB ⟨a, x⟩ q2
    · have e1 : (cosM atR a x).lo.k = (hullI (atR a).2 (atR x).2).lo.k := by unfold cosM cosT; rw [k]; rfl
      have e2 : (cosM atR a b).lo.k ≤ (atR a).2.lo.k := by
        refine Int.le_trans top_lo ?_
        show (mnF _ _).k ≤ _; rw [mnF_k]; omega
      rw [show (hullI (atR a).2 (atR x).2).lo = mnF (atR a).2.lo (atR x).2.lo from rfl] at e1
      rcases mnF_or (atR a).2.lo (atR x).2.lo with g | g
      · rw [g] at e1; exact kq (by omega)
      · rw [g] at e1
        rw [F.ext' e1]; grind
    · exact kq (by rw [cos_bot k, cos_bot (has_part h2 k)]; exact Int.le_refl _)
  · have e1 : (cosM atR a x).hi.k = (hullI (atR a).2 (atR x).2).hi.k := topk_hi hB
    have e2 : (atR a).2.hi.k ≤ (cosM atR a b).hi.k := by
      refine Int.le_trans ?_ top_hi
      show _ ≤ (mxF _ _).k; rw [mxF_k]; omega
    rw [show (hullI (atR a).2 (atR x).2).hi = mxF (atR a).2.hi (atR x).2.hi from rfl] at e1
    rcases mxF_or (atR a).2.hi (atR x).2.hi with g | g
    · rw [g] at e1; exact kq (by omega)
    · rw [g] at e1
      rw [F.ext' e1]; grind
end Bu
namespace Bu
set_option linter.all false
open Rx Go

def c16 : F := toF 4679240012837945344
def partW (n : Int) : Nat := (Ieee.double.div (FloatKind.f64.nearest n) c16.b).getD 0
def partF (n : Int) : F := toF (partW n)
set_option maxRecDepth 100000 in
theorem c16_z : c16.z = 65536 * (S : Int) ∧ 0 < c16.k := ⟨of_decide_eq_true (by decide +kernel), of_decide_eq_true (by decide +kernel)⟩
theorem part_ok' {n : Int} (h0 : 0 ≤ n) (h1 : n ≤ 65535) : (Ieee.double.div (FloatKind.f64.nearest n) c16.b).isSome = true ∧ (partF n).b = partW n := by
  obtain ⟨m, rfl⟩ := Int.eq_ofNat_of_zero_le h0
  by_cases hm : m = 0
  · subst hm
    have e1 : Ieee.double.div (FloatKind.f64.nearest ((0 : Nat) : Int)) c16.b = some 0 := by decide +kernel
    have e2 : partW ((0 : Nat) : Int) = 0 := by unfold partW; rw [e1]; rfl
    have e3 : partF ((0 : Nat) : Int) = toF 0 := by unfold partF; rw [e2]
    rw [e1, e2, e3]
    exact ⟨rfl, by decide +kernel⟩
  · have hP : P = 4503599627370496 := rfl
    have hz := nat_z (m := m) (by omega)
    have hk : 0 < (F.dy m 0).k := by
      have hS := S_pos
      have h2 : 0 < (F.dy m 0).z := by rw [hz]; exact Int.mul_pos (by omega) (by omega)
      have a := z_sign (F.dy m 0)
      have b := z_zero (F.dy m 0)
      omega
    have hle : (F.dy m 0).z ≤ c16.z := by rw [hz, c16_z.1]; exact Int.mul_le_mul_of_nonneg_right (by omega) (by have := S_pos; omega)
    obtain ⟨t, e, t0, t1⟩ := div_le1 hk c16_z.2 hle one64_nv (by rw [T_num]; omega)
    have e1 : Ieee.double.div (FloatKind.f64.nearest (m : Int)) c16.b = some t.b := by rw [near_int (by omega)]; exact e
    have e2 : partW (m : Int) = t.b := by unfold partW; rw [e1]; rfl
    have e3 : partF (m : Int) = t := by unfold partF; rw [e2, toF_F]
    rw [e1, e2, e3]
    exact ⟨rfl, rfl⟩
def btErr (a b t : F) : Int := IntKind.i64.wrap (IntKind.i64.wrap ((dSub false b a).2 + (dMul false (dSub false b a).1 t).2) + (dAdd false a (dMul false (dSub false b a).1 t).1).2)
def btY (a b t : F) : F := (dAdd false a (dMul false (dSub false b a).1 t).1).1
def btF (a b : F) (n : Int) : F := bif decide (n = 0) then a else bif decide (n = 65535) then b else bif !(btErr a b (partF n) == 0) then b else bif hasB ⟨a, b⟩ (btY a b (partF n)) then btY a b (partF n) else b
theorem btF_in {a b : F} {n : Int} (h : a.k ≤ b.k) : a.k ≤ (btF a b n).k ∧ (btF a b n).k ≤ b.k := by
  unfold btF
  cases decide (n = 0)
  · cases decide (n = 65535)
    · cases (!(btErr a b (partF n) == 0))
      · cases g : hasB ⟨a, b⟩ (btY a b (partF n))
        · exact ⟨h, Int.le_refl _⟩
        · unfold hasB at g
          simp only [Bool.and_eq_true, decide_eq_true_iff] at g
          exact ⟨g.1.2, g.2⟩
      · exact ⟨h, Int.le_refl _⟩
    · exact ⟨h, Int.le_refl _⟩
  · exact ⟨Int.le_refl _, h⟩
def w16 (n : Int) : Bool := decide (0 ≤ n ∧ n ≤ 65535)
def kBt (f : F → F → Int → F) (u : Int → Bool) : List SV → Dec → Option (SV × Dec × Obs)
  | [.agg [.fl a, .fl b], x], ds => match intS x with
    | some (.u16, n) => some (.fl (f a b n), ds, [(u n, true)])
    | _ => none
  | _, _ => none
/-- a sum or a difference in the run: its value, and what it takes -/
def sf (s : Option Nat) : F := toF (s.getD 0)
def so (s : Option Nat) : Obs := [(s.isSome, true), (rightB (s.getD 0), true)]
theorem so_ok {s : Option Nat} {D : F} (h : s = some D.b) : obsB (so s) = true ∧ sf s = D := by
  subst h
  refine ⟨?_, toF_F D⟩
  unfold so obsB
  rw [List.all_cons, List.all_cons, Option.isSome_some, Option.getD_some, right_F]; rfl
end Bu
namespace Bu
set_option linter.all false
open Rx Go

structure Kp where
  ib : I → Bool
  si : I → I
  co : I → I
  bt : F → F → Int → F
  u : Int → Bool
  me : I → I → Bool
  neg : Int → I → I × Int
  ld : F → Int → F
  lo : F → Int → Bool
def KpR : Kp := ⟨fun u => inB u.lo u.hi, fun u => sinM atR u.lo u.hi, fun u => cosM atR u.lo u.hi, btF, w16, meB, KTR.neg, ldF, fun x n => decide (Sc x (ldF x n) n)⟩
def fad (x y : F) : Option Nat := Ieee.double.add x.b y.b
def fsu (x y : F) : Option Nat := Ieee.double.sub x.b y.b
def t47 (N : Kp) : F := N.ld one64 (-47)
def tpLo (N : Kp) (s v : F) : Obs := (decide (v.k < (sf (fsu s (t47 N))).k), false) :: so (fsu s (t47 N)) ++ [(N.lo one64 (-47), true)]
def tpHi (N : Kp) (s v : F) : Obs := (decide ((sf (fad s (t47 N))).k < v.k), false) :: so (fad s (t47 N)) ++ [(N.lo one64 (-47), true)]
def tpB (N : Kp) (a b : F) (n : Int) (x : F) : Obs :=
  tpHi N (N.co ⟨a, b⟩).hi (N.co ⟨a, x⟩).hi ++ tpLo N (N.co ⟨a, b⟩).lo (N.co ⟨a, x⟩).lo ++ tpHi N (N.si ⟨a, b⟩).hi (N.si ⟨a, x⟩).hi ++ tpLo N (N.si ⟨a, b⟩).lo (N.si ⟨a, x⟩).lo ++
  [(N.me (N.co ⟨a, b⟩) (N.co ⟨x, x⟩), true), (N.me (N.si ⟨a, b⟩) (N.si ⟨x, x⟩), true), (N.ib ⟨a, x⟩, true), (N.ib ⟨x, x⟩, true), (N.ib ⟨a, b⟩, true), (N.u n, true), (N.ib ⟨a, b⟩, true)]
def tD (x : F) : F := sf (fad x q2)
def tE (x : F) : F := sf (fsu (tD x) q2)
def tG (x : F) : F := sf (fsu one64 x)
def tH (x : F) : F := sf (fsu one64 (tG x))
/-- the test of a turn by the half -/
def tpQ (x : F) (d : Bool) : Obs := (decide ((tE x).k = x.k), d) :: so (fsu (tD x) q2) ++ so (fad x q2) ++ [(decide (x.k < q2.k), true)]
def tpT (N : Kp) (x : F) : Obs := [(N.me (N.co ⟨tD x, tD x⟩) (N.neg (N.neg 0 (N.si ⟨x, x⟩)).2 (N.co ⟨x, x⟩)).1, true), (N.me (N.si ⟨tD x, tD x⟩) (N.neg 0 (N.si ⟨x, x⟩)).1, true), (N.ib ⟨tD x, tD x⟩, true)] ++ so (fad x q2) ++ so (fad x q2)
def tpR (x : F) (d : Bool) : Obs := (decide ((tH x).k = x.k), d) :: so (fsu one64 (tG x)) ++ so (fsu one64 x)
def tpA (N : Kp) (x : F) (e : Int) : Obs := [(N.me (N.co ⟨tG x, tG x⟩) (N.co ⟨x, x⟩), true), (N.me (N.si ⟨tG x, tG x⟩) (N.neg e (N.si ⟨x, x⟩)).1, true), (N.ib ⟨tG x, tG x⟩, true)] ++ so (fsu one64 x) ++ so (fsu one64 x)
def eT (N : Kp) (x : F) : Int := (N.neg (N.neg 0 (N.si ⟨x, x⟩)).2 (N.co ⟨x, x⟩)).2
def eA (N : Kp) (x : F) (e : Int) : Int := (N.neg e (N.si ⟨x, x⟩)).2
/-- the part about the half -/
def tpZ (N : Kp) (x : F) (e : Int) (l : Obs) (r : Bool) : Obs := (bif r then (decide (eA N x e = 0), true) :: tpA N x e else l) ++ tpR x r
/-- one list behind the other: of another shape than '++', so that the kernel compares no parts of the one with parts of the other -/
def apd : Obs → Obs → Obs
  | [], b => b
  | x :: l, b => x :: apd l b
theorem apd_eq : ∀ a b : Obs, apd a b = a ++ b
  | [], _ => rfl
  | x :: l, b => by rw [apd, apd_eq l b]; rfl
/-- c: 0: not below the half, 1: not exact, 2: exact -/
def tpO (N : Kp) (a b : F) (n : Int) (c : Nat) (r : Bool) : Obs :=
  match c with
  | 0 => apd (tpZ N (N.bt a b n) 0 [] r) ((decide ((N.bt a b n).k < q2.k), false) :: tpB N a b n (N.bt a b n))
  | 1 => apd (tpZ N (N.bt a b n) 0 [] r) (apd (tpQ (N.bt a b n) false) (tpB N a b n (N.bt a b n)))
  | _ => tpZ N (N.bt a b n) (eT N (N.bt a b n)) [(decide (eT N (N.bt a b n) = 0), true)] r |> fun z => apd z (apd (tpT N (N.bt a b n)) (apd (tpQ (N.bt a b n) true) (tpB N a b n (N.bt a b n))))
set_option maxRecDepth 100000 in
theorem t47_q : (ldF one64 (-47)).q * 140737488355328 = 1 := q_of' (n := 1) (s := 47) (by decide +kernel) rfl
set_option maxRecDepth 100000 in
theorem t47_ok : decide (Sc one64 (ldF one64 (-47)) (-47)) = true := by decide +kernel
theorem two_ex' : ∃ c : F, c.q = 4 := by
  obtain ⟨c, hc⟩ := grid 4 (by decide) 0 (by decide) (by decide)
  exact ⟨c, by rw [show ((2 ^ 0 : Nat) : Rat) = 1 from rfl, Rat.mul_one] at hc; exact hc⟩
structure N1 (x : F) : Prop where
  lo : -1 ≤ x.q
  hi : x.q ≤ 1
theorem in1_q {a : I} (h : In1 a) : N1 a.lo ∧ N1 a.hi ∧ a.lo.q ≤ a.hi.q := by
  have h1 := q_le.2 h.lo; have h2 := q_le.2 h.hi; have h3 := q_le.2 h.rt
  rw [mone_q] at h1; rw [one_q] at h2
  exact ⟨⟨h1, by grind⟩, ⟨by grind, h2⟩, h3⟩
theorem fsu_nr {x y : F} (h : N1 x) (k : N1 y) : ∃ D : F, fsu x y = some D.b ∧ Nr D (x.q - y.q) := by
  obtain ⟨g, hg⟩ := two_ex'
  have a1 := h.lo; have a2 := h.hi; have b1 := k.lo; have b2 := k.hi
  exact sub_nr (g := g) (by grind) (by grind)
theorem fad_nr {x y : F} (h : N1 x) (k : N1 y) : ∃ D : F, fad x y = some D.b ∧ Nr D (x.q + y.q) := by
  obtain ⟨g, hg⟩ := two_ex'
  have a1 := h.lo; have a2 := h.hi; have b1 := k.lo; have b2 := k.hi
  exact add_nr (g := g) (by grind) (by grind)
theorem t47_1 : N1 (t47 KpR) := by
  have h := t47_q
  have e : t47 KpR = ldF one64 (-47) := rfl
  rw [e]
  exact ⟨by grind, by grind⟩
theorem t47_u : (t47 KpR).q = 64 * ulp := by
  have h := t47_q
  have e : t47 KpR = ldF one64 (-47) := rfl
  rw [e]
  unfold ulp
  grind
theorem eps_ulp : 2 * eps ≤ ulp := by
  have h : decide (2 * eps ≤ ulp) = true := by decide +kernel
  exact of_decide_eq_true h
theorem obApd {a b : Obs} (ha : obsB a = true) (hb : obsB b = true) : obsB (apd a b) = true := by rw [apd_eq, obsB_app, ha, hb]; rfl
theorem ob2 {a b : Obs} (ha : obsB a = true) (hb : obsB b = true) : obsB (a ++ b) = true := by rw [obsB_app, ha, hb]; rfl
theorem tpLo_ok {s v : F} (hs : N1 s) (h : s.q ≤ v.q + (32 * ulp + 2 * eps)) : obsB (tpLo KpR s v) = true := by
  obtain ⟨D, e, n⟩ := fsu_nr hs t47_1
  obtain ⟨o1, o2⟩ := so_ok e
  have he := eps_ulp
  have hu := ulp_pos
  unfold tpLo
  refine obsB_yes ?_ (ob2 o1 (obsB_yes t47_ok obsB_nil))
  rw [o2]
  have := q_le.1 (n.up v (by rw [t47_u]; grind))
  exact decide_eq_false (by omega)
theorem tpHi_ok {s v : F} (hs : N1 s) (h : v.q ≤ s.q + (32 * ulp + 2 * eps)) : obsB (tpHi KpR s v) = true := by
  obtain ⟨D, e, n⟩ := fad_nr hs t47_1
  obtain ⟨o1, o2⟩ := so_ok e
  have he := eps_ulp
  have hu := ulp_pos
  unfold tpHi
  refine obsB_yes ?_ (ob2 o1 (obsB_yes t47_ok obsB_nil))
  rw [o2]
  have := q_le.1 (n.dn v (by rw [t47_u]; grind))
  exact decide_eq_false (by omega)
theorem tpB_ok {a b : F} {n : Int} {x : F} (h : inB a b = true) (h1 : a.k ≤ x.k) (h2 : x.k ≤ b.k) (hn : w16 n = true) : obsB (tpB KpR a b n x) = true := by
  obtain ⟨ix, ia⟩ := inB_part h h1 h2
  have x1 := q_le.2 h1; have x2 := q_le.2 h2
  obtain ⟨⟨p1, p2⟩, p3, p4⟩ := part_bd h x1 x2
  obtain ⟨⟨f1, f2⟩, f3, f4⟩ := part_far h h1 h2
  obtain ⟨⟨m1, _⟩, m2, _⟩ := enc_M ix
  obtain ⟨s1, s2, s3⟩ := in1_q (sinM_in a b)
  obtain ⟨c1, c2, c3⟩ := in1_q (cosM_in a b)
  have he := eps_pos
  have a1 := m1.lo; have a2 := m1.hi; have a3 := m2.lo; have a4 := m2.hi
  unfold tpB
  refine ob2 (ob2 (ob2 (ob2 (tpHi_ok c2 f4) (tpLo_ok c1 f3)) (tpHi_ok s2 f2)) (tpLo_ok s1 f1)) ?_
  refine obsB_yes (meB_of (a := cosM atR a b) (b := cosM atR x x) c3 (by grind) (by grind) (by grind)) (obsB_yes (meB_of (a := sinM atR a b) (b := sinM atR x x) s3 (by grind) (by grind) (by grind)) (obsB_yes ia (obsB_yes ix (obsB_yes h (obsB_yes hn (obsB_yes h obsB_nil))))))
theorem one_1 : N1 one64 := by constructor <;> (rw [one_q]; grind)
theorem inx {x : F} (h : inB x x = true) : 0 ≤ x.q ∧ x.q ≤ 1 ∧ N1 x := by
  obtain ⟨h1, h2, h3⟩ := inB_q h
  exact ⟨h1, h3, by grind, h3⟩
theorem inB_of {x : F} (h0 : 0 ≤ x.q) (h1 : x.q ≤ 1) : inB x x = true := by
  have k0 : (toF 0).k ≤ x.k := q_le.1 (by have := zero0_q; grind)
  have k1 : x.k ≤ one64.k := q_le.1 (by rw [one_q]; exact h1)
  unfold inB rt
  simp only [Bool.and_eq_true, decide_eq_true_iff]
  omega
theorem tpQ_ok {x : F} (hx : inB x x = true) (hl : x.k < q2.k) : obsB (tpQ x (decide ((tE x).k = x.k))) = true ∧ obsB (so (fad x q2)) = true ∧ ((tE x).k = x.k → (tD x).q = x.q + 1 / 2) := by
  obtain ⟨x0, x1, xn⟩ := inx hx
  obtain ⟨_, _, _, _, _, g2, _, _⟩ := consts
  have hl' := q_lt.2 hl
  have n2 : N1 q2 := by constructor <;> grind
  obtain ⟨D, e, n⟩ := fad_nr xn n2
  obtain ⟨o1, o2⟩ := so_ok e
  have e2 : tD x = D := o2
  have d1 := n.dn q2 (by grind)
  have d2 := n.up one64 (by rw [one_q]; grind)
  rw [one_q] at d2
  obtain ⟨E, e', n'⟩ := fsu_nr (x := tD x) (y := q2) (by rw [e2]; constructor <;> grind) n2
  obtain ⟨o3, o4⟩ := so_ok e'
  refine ⟨?_, o1, fun hk => ?_⟩
  · unfold tpQ
    exact obsB_yes rfl (ob2 (ob2 o3 o1) (obsB_yes (decide_eq_true hl) obsB_nil))
  · have e4 : tE x = E := o4
    rw [e4] at hk
    rw [e2] at n' ⊢
    exact turn_exact x0 (by grind) (by rw [show (1 / 2 : Rat) = q2.q by grind]; exact n) (by rw [show (1 / 2 : Rat) = q2.q by grind]; exact n') hk
theorem tpR_ok {x : F} (hx : inB x x = true) : obsB (tpR x (decide ((tH x).k = x.k))) = true ∧ obsB (so (fsu one64 x)) = true ∧ ((tH x).k = x.k → (tG x).q = 1 - x.q) := by
  obtain ⟨x0, x1, xn⟩ := inx hx
  obtain ⟨D, e, n⟩ := fsu_nr one_1 xn
  obtain ⟨o1, o2⟩ := so_ok e
  have e2 : tG x = D := o2
  have d1 := n.dn F.zero (by rw [q_zero, one_q]; grind)
  have d2 := n.up one64 (by rw [one_q]; grind)
  rw [one_q] at d2; rw [q_zero] at d1
  obtain ⟨E, e', n'⟩ := fsu_nr (x := one64) (y := tG x) one_1 (by rw [e2]; constructor <;> grind)
  obtain ⟨o3, o4⟩ := so_ok e'
  refine ⟨?_, o1, fun hk => ?_⟩
  · unfold tpR
    exact obsB_yes rfl (ob2 o3 o1)
  · have e4 : tH x = E := o4
    rw [e4] at hk
    rw [e2] at n' ⊢
    rw [one_q] at n n'
    exact about_exact x0 x1 n n' hk
theorem neg_sin {x : F} : KpR.neg 0 (KpR.si ⟨x, x⟩) = (turnI (sinM atR x x), 0) := cNeg_ok (in1_q (sinM_in x x)).2.2
theorem neg_cos {x : F} : KpR.neg 0 (KpR.co ⟨x, x⟩) = (turnI (cosM atR x x), 0) := cNeg_ok (in1_q (cosM_in x x)).2.2
theorem eT_0 {x : F} : eT KpR x = 0 := by unfold eT; rw [neg_sin, neg_cos]
theorem tpT_ok {x : F} (hx : inB x x = true) (hl : x.k < q2.k) (hk : (tE x).k = x.k) : obsB (tpT KpR x) = true := by
  obtain ⟨x0, x1, xn⟩ := inx hx
  obtain ⟨_, _, _, _, _, g2, _, _⟩ := consts
  have hl' := q_lt.2 hl
  obtain ⟨_, o1, hD⟩ := tpQ_ok hx hl
  have hD := hD hk
  have hi : inB (tD x) (tD x) = true := inB_of (by grind) (by grind)
  obtain ⟨⟨m1, _⟩, m2, _⟩ := enc_M hx
  obtain ⟨⟨k1, _⟩, k2, _⟩ := enc_M hi
  obtain ⟨s1, s2⟩ := SN_half x0 (show x.q < 1 / 2 by grind)
  unfold tpT
  rw [neg_sin, neg_cos]
  refine ob2 (ob2 (obsB_yes ?_ (obsB_yes ?_ (obsB_yes hi obsB_nil))) o1) o1
  · exact meB_mem k2 (turn_mem m2) (.refl (by rw [hD, s2]))
  · exact meB_mem k1 (turn_mem m1) (.refl (by rw [hD, s1]))
theorem tpA_ok {x : F} (hx : inB x x = true) (hk : (tH x).k = x.k) : obsB (tpA KpR x 0) = true := by
  obtain ⟨x0, x1, xn⟩ := inx hx
  obtain ⟨_, o1, hD⟩ := tpR_ok hx
  have hD := hD hk
  have hi : inB (tG x) (tG x) = true := inB_of (by grind) (by grind)
  obtain ⟨⟨m1, _⟩, m2, _⟩ := enc_M hx
  obtain ⟨⟨k1, _⟩, k2, _⟩ := enc_M hi
  obtain ⟨s1, s2⟩ := SN_about x0 x1
  unfold tpA
  rw [neg_sin]
  refine ob2 (ob2 (obsB_yes ?_ (obsB_yes ?_ (obsB_yes hi obsB_nil))) o1) o1
  · exact meB_mem k2 m2 (by rw [hD]; exact s2)
  · exact meB_mem k1 (turn_mem m1) (by rw [hD]; exact s1)
theorem tpZ_ok {x : F} {l : Obs} (hl : obsB l = true) (hx : inB x x = true) : obsB (tpZ KpR x 0 l (decide ((tH x).k = x.k))) = true := by
  have r := tpR_ok hx
  unfold tpZ
  refine ob2 ?_ r.1
  cases k : decide ((tH x).k = x.k)
  · exact hl
  · refine obsB_yes ?_ (tpA_ok hx (of_decide_eq_true k))
    unfold eA
    rw [neg_sin]; rfl
def tpC (x : F) : Nat := bif decide (x.k < q2.k) then (bif decide ((tE x).k = x.k) then 2 else 1) else 0
theorem tpO_ok {a b : F} {n : Int} (h : inB a b = true) (hn : w16 n = true) : obsB (tpO KpR a b n (tpC (btF a b n)) (decide ((tH (btF a b n)).k = (btF a b n).k))) = true := by
  have hr : a.k ≤ b.k := by unfold inB rt at h; simp only [Bool.and_eq_true, decide_eq_true_iff] at h; exact h.1.1
  obtain ⟨h1, h2⟩ := btF_in (n := n) hr
  obtain ⟨hx, _⟩ := inB_part h h1 h2
  have hB := tpB_ok h h1 h2 hn
  have e : KpR.bt a b n = btF a b n := rfl
  unfold tpO
  rw [e]
  generalize btF a b n = x at *
  have hZ := tpZ_ok obsB_nil hx
  unfold tpC
  cases k1 : decide (x.k < q2.k)
  · exact obApd hZ (obsB_yes rfl hB)
  · have hl := of_decide_eq_true k1
    have q := tpQ_ok hx hl
    cases k2 : decide ((tE x).k = x.k)
    · rw [k2] at q
      exact obApd hZ (obApd q.1 hB)
    · rw [k2] at q
      simp only [cond_true]
      rw [eT_0]
      exact obApd (tpZ_ok (obsB_yes rfl obsB_nil) hx) (obApd (tpT_ok hx hl (of_decide_eq_true k2)) (obApd q.1 hB))
end Bu
