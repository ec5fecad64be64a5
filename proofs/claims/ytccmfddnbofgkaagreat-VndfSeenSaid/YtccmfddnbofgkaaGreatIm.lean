/- CosineRound, plain: how narrow roots, sines and cosines of draws are. CosineRound, plain. -/
import Derived.Test.YtccmfddnbofgkaaGreatIj
import Derived.Test.YtccmfddnbofgkaaGreatFs
namespace Bu
set_option linter.all false
open Rx Go

/-- a number just above -/
theorem above {y : Rat} (h0 : 0 ≤ y) (h1 : y ≤ 3 / 2) : ∃ c : F, y < c.q ∧ c.q ≤ y + 2 * ulp := by
  have e52 : ((2 ^ 52 : Nat) : Rat) = 4503599627370496 := rfl
  have a1 := Rat.floor_le (y * 4503599627370496)
  have a2 := Rat.lt_floor_add_one (y * 4503599627370496)
  have f0 : (0 : Int) ≤ (y * 4503599627370496).floor := Rat.le_floor_iff.2 (by have := Rat.mul_nonneg h0 (show (0 : Rat) ≤ 4503599627370496 by grind); simpa using this)
  have f1 : (y * 4503599627370496).floor ≤ 6755399441055744 := by
    have : (((y * 4503599627370496).floor : Int) : Rat) ≤ ((6755399441055744 : Int) : Rat) := Rat.le_trans a1 (by have e : ((6755399441055744 : Int) : Rat) = 6755399441055744 := rfl; rw [e]; grind)
    exact Rat.intCast_le_intCast.1 this
  obtain ⟨c, hc⟩ := grid ((y * 4503599627370496).floor + 1) (by omega) 52 (by omega) (by omega)
  rw [e52] at hc
  have e1 : (((y * 4503599627370496).floor + 1 : Int) : Rat) = (((y * 4503599627370496).floor : Int) : Rat) + 1 := by rw [Rat.intCast_add]; rfl
  rw [e1] at a2 hc
  generalize (((y * 4503599627370496).floor : Int) : Rat) = m at *
  refine ⟨c, by grind, by unfold ulp; grind⟩
/-- a root, up, is not far above one, down -/
theorem root_near {r s a b : F} (h1 : SqD r a) (h2 : SqU s b) (ha : a.q ≤ b.q) (hb : b.q ≤ 1) (g : Rat) (hg0 : 2 * ulp ≤ g) (hg : g ≤ 1 / 4) (hg2 : b.q - a.q ≤ 2 * (g - 2 * ulp) * r.q + (g - 2 * ulp) * (g - 2 * ulp)) : s.q ≤ r.q + g + 2 * ulp := by
  have hu := ulp_pos
  have hu1 : ulp ≤ 1 / 1048576 := by unfold ulp; grind
  have r0 := h1.nn
  have r1 : r.q ≤ 1 := sq_le' r0 (by grind) (by have := h1.le; grind)
  obtain ⟨c, c1, c2⟩ := above r0 (by grind)
  have k1 : a.q < c.q * c.q := by
    apply Rat.not_le.1
    intro k
    have := h1.top c (by grind) k
    grind
  obtain ⟨d, d1, d2⟩ := above (show 0 ≤ r.q + g by grind) (by grind)
  have k2 := sq_bd (x := c.q) (m := r.q + 2 * ulp) (by grind) c2
  have k3 : (r.q + g) * (r.q + g) ≤ d.q * d.q := sq_bd (by grind) (by grind)
  have e1 : (r.q + g) * (r.q + g) = (r.q + 2 * ulp) * (r.q + 2 * ulp) + (2 * (g - 2 * ulp) * r.q + (g - 2 * ulp) * (g - 2 * ulp)) + 4 * ulp * (g - 2 * ulp) := by grind
  have k4 := Rat.mul_nonneg (Rat.le_of_lt hu) (show 0 ≤ g - 2 * ulp by grind)
  exact Rat.le_trans (h2.bot d (by grind) (by grind)) (by grind)

/-- one within another one -/
structure Sub (a b : I) : Prop where
  lo : b.lo.q ≤ a.lo.q
  hi : a.hi.q ≤ b.hi.q
theorem hull_sub {a b c d : I} (h1 : Sub a c) (h2 : Sub b d) : Sub (hullI a b) (hullI c d) := by
  have m1 := mnF_q c.lo d.lo
  have m2 := mxF_q c.hi d.hi
  have a1 := h1.lo; have a2 := h1.hi; have b1 := h2.lo; have b2 := h2.hi
  constructor
  · show (mnF c.lo d.lo).q ≤ (mnF a.lo b.lo).q
    rcases mnF_or a.lo b.lo with e | e <;> rw [e] <;> grind
  · show (mxF a.hi b.hi).q ≤ (mxF c.hi d.hi).q
    rcases mxF_or a.hi b.hi with e | e <;> rw [e] <;> grind
theorem Sub.wd {a b : I} (h : Sub a b) : wd a ≤ wd b := by have := h.lo; have := h.hi; unfold Bu.wd; grind
theorem withI_sub {a : I} {v : Rat} (h : Mem a v) (h0 : -1 ≤ v) (h1 : v ≤ 1) : Sub (withI a) a := by
  rw [withI_eq h h0 h1]
  exact ⟨(mxF_q a.lo mone64).1, (mnF_q a.hi one64).1⟩
theorem turn_sub {a b : I} (h : Sub a b) : Sub (turnI a) (turnI b) := by
  have := h.lo; have := h.hi
  constructor
  · show b.hi.neg.q ≤ a.hi.neg.q; rw [q_neg, q_neg]; grind
  · show a.lo.neg.q ≤ b.lo.neg.q; rw [q_neg, q_neg]; grind
/-- two that hold values near to one another -/
theorem hull_wd {a b : I} {x y w1 w2 g : Rat} (hx : Mem a x) (hy : Mem b y) (h1 : wd a ≤ w1) (h2 : wd b ≤ w2) (hg : x - y ≤ g ∧ y - x ≤ g) : wd (hullI a b) ≤ w1 + w2 + g := by
  have a1 := hx.lo; have a2 := hx.hi; have b1 := hy.lo; have b2 := hy.hi
  unfold wd at *
  show (mxF a.hi b.hi).q - (mnF a.lo b.lo).q ≤ _
  rcases mxF_or a.hi b.hi with e | e <;> rcases mnF_or a.lo b.lo with f | f <;> rw [e, f] <;> grind
theorem wF_s : decide (wF (101 / 64 * (25 * ulp) + 2 * ulp) slQ (1 / 256) ≤ 60 * ulp) = true := by decide +kernel
theorem wF_c : decide (wF (101 / 64 * (25 * ulp) + 2 * ulp) clQ (1 / 256) ≤ 60 * ulp) = true := by decide +kernel
/-- two numbers in one eighth: their sines, their cosines are near -/
theorem atSC_two {q x y : F} (x1 : -(1 / 8) ≤ x.q - q.q) (x2 : x.q - q.q ≤ 1 / 8) (bx1 : 0 ≤ x.q) (bx2 : x.q ≤ 1) (y1 : -(1 / 8) ≤ y.q - q.q) (y2 : y.q - q.q ≤ 1 / 8) (by1 : 0 ≤ y.q) (by2 : y.q ≤ 1) (b3 : 0 ≤ q.q) (b4 : q.q ≤ 1)
    (hxy : x.q ≤ y.q) (hd : y.q - x.q ≤ 2 * ulp) :
    ∃ S C S2 C2, atS KTR KRR q x = (S, 0) ∧ atC KTR KRR q x = (C, 0) ∧ atS KTR KRR q y = (S2, 0) ∧ atC KTR KRR q y = (C2, 0) ∧ (Sm S ∧ U01 C ∧ Sm S2 ∧ U01 C2) ∧ wd (hullI S S2) ≤ 200 * ulp ∧ wd (hullI C C2) ≤ 200 * ulp ∧ Circ S C ∧ Circ S2 C2 := by
  have hu := ulp_pos
  have hu1 : ulp ≤ 1 / 1048576 := by unfold ulp; grind
  obtain ⟨t, e1, ht, wt, mt⟩ := atT_ok x1 x2 bx1 bx2 b3 b4
  obtain ⟨t2, e2, ht2, wt2, mt2⟩ := atT_ok y1 y2 by1 by2 b3 b4
  obtain ⟨S, C, s1, s2, s3, s4, s5, s6, s7⟩ := atSC_ok x1 x2 bx1 bx2 b3 b4
  obtain ⟨S2, C2, r1, r2, r3, r4, r5, r6, r7⟩ := atSC_ok y1 y2 by1 by2 b3 b4
  have a7 := s7 _ tau_mem
  have b7 := r7 _ tau_mem
  have zx := mt _ tau_mem
  have zy := mt2 _ tau_mem
  -- both angles' interval
  have hT : Ang (hullI t t2) := by
    have p1 := ht.lo; have p2 := ht.rt; have p3 := ht.hi; have q1 := ht2.lo; have q2 := ht2.rt; have q3 := ht2.hi
    have m1 := mnF_q t.lo t2.lo; have m2 := mxF_q t.hi t2.hi
    refine ⟨?_, ?_, ?_⟩
    · show _ ≤ (mnF t.lo t2.lo).q; rcases mnF_or t.lo t2.lo with e | e <;> rw [e] <;> grind
    · show (mnF t.lo t2.lo).q ≤ (mxF t.hi t2.hi).q; grind
    · show (mxF t.hi t2.hi).q ≤ _; rcases mxF_or t.hi t2.hi with e | e <;> rw [e] <;> grind
  have tl := tau_lo
  have ta : TAU.lo.q ≤ 63 / 10 ∧ 0 ≤ TAU.lo.q := by rw [tl]; constructor <;> grind
  have dz : TAU.lo.q * (y.q - q.q) - TAU.lo.q * (x.q - q.q) ≤ 63 / 5 * ulp ∧ 0 ≤ TAU.lo.q * (y.q - q.q) - TAU.lo.q * (x.q - q.q) := by
    have k1 := Rat.mul_nonneg ta.2 (show 0 ≤ y.q - x.q by grind)
    have k2 := Rat.mul_nonneg (show 0 ≤ 63 / 10 - TAU.lo.q by grind) (show 0 ≤ y.q - x.q by grind)
    constructor <;> grind
  have wT := hull_wd (g := 13 * ulp) zx zy wt wt2 (by constructor <;> grind)
  have mx : Mem (hullI t t2) (TAU.lo.q * (x.q - q.q)) := hull_mem zx
  have my : Mem (hullI t t2) (TAU.lo.q * (y.q - q.q)) := ⟨Rat.le_trans (mnF_q t.lo t2.lo).2 zy.lo, Rat.le_trans zy.hi (mxF_q t.hi t2.hi).2⟩
  obtain ⟨R, _, Ru, Rm, Rw⟩ := row_ok hT (D := toF 4646096334330265600) (by rw [sl_q.2]; grind) sl_2
  obtain ⟨G, _, Gu, Gm, Gw⟩ := row_ok hT (D := toF 4645392646888488960) (by rw [cl_q.2]; grind) cl_2
  rw [sl_q.1] at Rm Rw
  rw [cl_q.1] at Gm Gw
  have wT0 : 0 ≤ wd (hullI t t2) := by have := hT.rt; unfold wd; grind
  have R2 : wd R ≤ 60 * ulp := Rat.le_trans Rw (Rat.le_trans (wF_mono (by grind) slQ_2 (by grind) (by grind) Rat.le_refl) (of_decide_eq_true wF_s))
  have G2 : wd G ≤ 60 * ulp := Rat.le_trans Gw (Rat.le_trans (wF_mono (by grind) clQ_2 (by grind) (by grind) Rat.le_refl) (of_decide_eq_true wF_c))
  have Rx := (Rm _ mx).1; have Ry := (Rm _ my).1
  have Gx := (Gm _ mx).1; have Gy := (Gm _ my).1
  have z1 := a7.lo; have z2 := a7.hi; have z3 := b7.lo; have z4 := b7.hi
  have As := a7.s1; have Ac := a7.c1; have Bs := b7.s1; have Bc := b7.c1
  refine ⟨S, C, S2, C2, s1, s2, r1, r2, ⟨s3, s4, r3, r4⟩, ?_, ?_, a7.circ, b7.circ⟩
  · have u1 := Ru.lo; have u2 := Ru.hi
    have l1 := Rx.lo; have l2 := Rx.hi; have l3 := Ry.lo; have l4 := Ry.hi
    unfold wd at R2
    generalize TAU.lo.q * (x.q - q.q) = z at *
    generalize TAU.lo.q * (y.q - q.q) = z' at *
    generalize nestR (z * z) slQ 1 = v at *
    generalize nestR (z' * z') slQ 1 = v' at *
    have k1 := Rat.mul_nonneg (show 0 ≤ z' - z by grind) (show 0 ≤ v by grind)
    have k2 := Rat.mul_nonneg (show 0 ≤ z' - z by grind) (show 0 ≤ 1 - v by grind)
    have k3 := Rat.mul_nonneg (show 0 ≤ 1 - z' by grind) (show 0 ≤ 60 * ulp - (v - v') by grind)
    have k4 := Rat.mul_nonneg (show 0 ≤ 1 + z' by grind) (show 0 ≤ 60 * ulp - (v - v') by grind)
    have k5 := Rat.mul_nonneg (show 0 ≤ 1 - z' by grind) (show 0 ≤ 60 * ulp + (v - v') by grind)
    have k6 := Rat.mul_nonneg (show 0 ≤ 1 + z' by grind) (show 0 ≤ 60 * ulp + (v - v') by grind)
    have := hull_wd (g := 134 * ulp) As Bs s5 r5 (by constructor <;> grind)
    grind
  · have l1 := Gx.lo; have l2 := Gx.hi; have l3 := Gy.lo; have l4 := Gy.hi
    unfold wd at G2
    have := hull_wd (g := 60 * ulp) Ac Bc s6 r6 (by constructor <;> grind)
    grind
theorem hull_turn (a b : I) : wd (hullI (turnI a) (turnI b)) ≤ wd (hullI a b) := by
  have m1 := mnF_q a.lo b.lo
  have m2 := mxF_q a.hi b.hi
  unfold wd
  show (mxF a.lo.neg b.lo.neg).q - (mnF a.hi.neg b.hi.neg).q ≤ (mxF a.hi b.hi).q - (mnF a.lo b.lo).q
  rcases mxF_or a.lo.neg b.lo.neg with e | e <;> rcases mnF_or a.hi.neg b.hi.neg with f | f <;> rw [e, f, q_neg, q_neg] <;> grind
theorem circ_clip {S C : I} (h : Circ S C) : Sub (withI S) S ∧ Sub (withI C) C := by
  obtain ⟨⟨s, c, h1, h2, h3⟩, _⟩ := h
  obtain ⟨⟨a1, a2⟩, a3, a4⟩ := abs_of_sq h3
  exact ⟨withI_sub h1 a1 a2, withI_sub h2 a3 a4⟩
structure Two (p r : I × I) : Prop where
  s : wd (hullI p.1 r.1) ≤ 200 * ulp
  c : wd (hullI p.2 r.2) ≤ 200 * ulp
theorem atP_two {q x y : F} (x1 : -(1 / 8) ≤ x.q - q.q) (x2 : x.q - q.q ≤ 1 / 8) (bx1 : 0 ≤ x.q) (bx2 : x.q ≤ 1) (y1 : -(1 / 8) ≤ y.q - q.q) (y2 : y.q - q.q ≤ 1 / 8) (by1 : 0 ≤ y.q) (by2 : y.q ≤ 1) (b3 : 0 ≤ q.q) (b4 : q.q ≤ 1)
    (hxy : x.q ≤ y.q) (hd : y.q - x.q ≤ 2 * ulp) (j : Nat) : Two (atP KTR KRR withI j q x) (atP KTR KRR withI j q y) := by
  obtain ⟨S, C, S2, C2, e1, e2, e3, e4, ⟨s3, s4, r3, r4⟩, w1, w2, hc, hc2⟩ := atSC_two x1 x2 bx1 bx2 y1 y2 by1 by2 b3 b4 hxy hd
  have f1 : KTR.neg 0 S = (turnI S, 0) := cNeg_ok s3.rt
  have f2 : KTR.neg 0 C = (turnI C, 0) := cNeg_ok s4.rt
  have f3 : KTR.neg 0 S2 = (turnI S2, 0) := cNeg_ok r3.rt
  have f4 : KTR.neg 0 C2 = (turnI C2, 0) := cNeg_ok r4.rt
  have ts := Rat.le_trans (hull_turn S S2) w1
  have tc := Rat.le_trans (hull_turn C C2) w2
  have c1 := circ_clip hc; have c2 := circ_clip hc2
  have d1 := circ_clip hc.turn; have d2 := circ_clip hc2.turn
  have g1 := circ_clip hc.swap.turn; have g2 := circ_clip hc2.swap.turn
  unfold atP
  simp only [e1, e2, e3, e4, f1, f2, f3, f4]
  split
  · exact ⟨Rat.le_trans (hull_sub c1.1 c2.1).wd w1, Rat.le_trans (hull_sub c1.2 c2.2).wd w2⟩
  · exact ⟨Rat.le_trans (hull_sub c1.2 c2.2).wd w2, Rat.le_trans (hull_sub d1.1 d2.1).wd ts⟩
  · exact ⟨Rat.le_trans (hull_sub d1.1 d2.1).wd ts, Rat.le_trans (hull_sub g1.1 g2.1).wd tc⟩
  · exact ⟨Rat.le_trans (hull_sub g1.1 g2.1).wd tc, Rat.le_trans (hull_sub c1.1 c2.1).wd w1⟩
def crossB (c : F) : Bool := decide (((hullI (atR (F.of (c.k - 1))).1 (atR c).1).hi.z - (hullI (atR (F.of (c.k - 1))).1 (atR c).1).lo.z) * 9007199254740992 ≤ 200 * (S : Int)) && decide (((hullI (atR (F.of (c.k - 1))).2 (atR c).2).hi.z - (hullI (atR (F.of (c.k - 1))).2 (atR c).2).lo.z) * 9007199254740992 ≤ 200 * (S : Int))
set_option maxRecDepth 100000 in
theorem cross1 : crossB c1 = true := by decide +kernel
set_option maxRecDepth 100000 in
theorem cross3 : crossB c3 = true := by decide +kernel
set_option maxRecDepth 100000 in
theorem cross5 : crossB c5 = true := by decide +kernel
set_option maxRecDepth 100000 in
theorem cross7 : crossB c7 = true := by decide +kernel
theorem wd_z {a : I} (h : (a.hi.z - a.lo.z) * 9007199254740992 ≤ 200 * (S : Int)) : wd a ≤ 200 * ulp := by
  have h1 := Rat.intCast_le_intCast.2 h
  rw [Rat.intCast_mul, Rat.intCast_mul, Rat.intCast_sub, Rat.intCast_natCast, ← F.q_mul, ← F.q_mul] at h1
  have e1 : ((9007199254740992 : Int) : Rat) = 9007199254740992 := rfl
  have e2 : ((200 : Int) : Rat) = 200 := rfl
  rw [e1, e2] at h1
  have hS := S_gt
  unfold wd ulp
  refine Rat.le_of_mul_le_mul_right (c := (S : Rat)) ?_ hS
  grind
theorem cross_two {x c : F} (h : crossB c = true) (hx : x.k = c.k - 1) : Two (atR x) (atR c) := by
  have e : x = F.of (c.k - 1) := by rw [← hx, F.of_self]
  subst e
  unfold crossB at h
  rw [Bool.and_eq_true] at h
  exact ⟨wd_z (of_decide_eq_true h.1), wd_z (of_decide_eq_true h.2)⟩
theorem atR_two {x y : F} (b1 : 0 ≤ x.q) (b2 : y.q ≤ 1) (hk : x.k ≤ y.k ∧ y.k ≤ x.k + 1) (hd : y.q - x.q ≤ 2 * ulp) : Two (atR x) (atR y) := by
  obtain ⟨k1, k3, k5, k7, g1, g2, g3, g0⟩ := consts
  have hxy := q_le.2 hk.1
  have lt : ∀ {z c : F}, decide (z.k < c.k) = true → z.q < c.q := fun h => q_lt.2 (of_decide_eq_true h)
  have ge : ∀ {z c : F}, decide (z.k < c.k) = false → c.q ≤ z.q := fun h => q_le.2 (by have := of_decide_eq_false h; omega)
  have cr : ∀ {c : F}, crossB c = true → decide (x.k < c.k) = true → decide (y.k < c.k) = false → Two (atR x) (atR y) := by
    intro c hc h1 h2
    have h1 := of_decide_eq_true h1
    have h2 := of_decide_eq_false h2
    have : y = c := F.ext' (by omega)
    subst this
    exact cross_two hc (by omega)
  have no : ∀ {c : F}, decide (x.k < c.k) = false → decide (y.k < c.k) = true → False := by
    intro c h1 h2
    have h1 := of_decide_eq_false h1
    have h2 := of_decide_eq_true h2
    omega
  cases h5 : decide (x.k < c5.k) <;> cases i5 : decide (y.k < c5.k)
  · have p5 := ge h5; have r5 := ge i5
    cases h7 : decide (x.k < c7.k) <;> cases i7 : decide (y.k < c7.k)
    · have p7 := ge h7; have r7 := ge i7
      unfold atR atM
      simp only [h5, i5, h7, i7, cond_false]
      refine atP_two ?_ ?_ b1 (by grind) ?_ ?_ (by grind) b2 ?_ ?_ hxy hd _ <;> (rw [one_q]; grind)
    · exact (no h7 i7).elim
    · exact cr cross7 h7 i7
    · have p7 := lt h7; have r7 := lt i7
      unfold atR atM
      simp only [h5, i5, h7, i7, cond_false, cond_true]
      refine atP_two ?_ ?_ b1 (by grind) ?_ ?_ (by grind) b2 ?_ ?_ hxy hd _ <;> grind
  · exact (no h5 i5).elim
  · exact cr cross5 h5 i5
  · have p5 := lt h5; have r5 := lt i5
    cases h3 : decide (x.k < c3.k) <;> cases i3 : decide (y.k < c3.k)
    · have p3 := ge h3; have r3 := ge i3
      unfold atR atM
      simp only [h5, i5, h3, i3, cond_false, cond_true]
      refine atP_two ?_ ?_ b1 (by grind) ?_ ?_ (by grind) b2 ?_ ?_ hxy hd _ <;> grind
    · exact (no h3 i3).elim
    · exact cr cross3 h3 i3
    · have p3 := lt h3; have r3 := lt i3
      cases h1 : decide (x.k < c1.k) <;> cases i1 : decide (y.k < c1.k)
      · have p1 := ge h1; have r1 := ge i1
        unfold atR atM
        simp only [h5, i5, h3, i3, h1, i1, cond_false, cond_true]
        refine atP_two ?_ ?_ b1 (by grind) ?_ ?_ (by grind) b2 ?_ ?_ hxy hd _ <;> grind
      · exact (no h1 i1).elim
      · exact cr cross1 h1 i1
      · have p1 := lt h1; have r1 := lt i1
        unfold atR atM
        simp only [h5, i5, h3, i3, h1, i1, cond_true]
        refine atP_two ?_ ?_ b1 (by grind) ?_ ?_ (by grind) b2 ?_ ?_ hxy hd _ <;> grind
set_option maxRecDepth 100000 in
theorem quart1 : decide ((atR q1).1.hi.k = one64.k) = true := by decide +kernel
set_option maxRecDepth 100000 in
theorem quart3 : decide ((atR q3).1.lo.k = mone64.k) = true := by decide +kernel
set_option maxRecDepth 100000 in
theorem quart2 : decide ((atR q2).2.lo.k = mone64.k) = true := by decide +kernel
theorem hull_top {h p : I} (h1 : h.lo.q ≤ p.lo.q) (h2 : p.hi.q ≤ h.hi.q) : Sub (hullI h p) h := by
  constructor
  · show h.lo.q ≤ (mnF h.lo p.lo).q; rcases mnF_or h.lo p.lo with e | e <;> rw [e] <;> grind
  · show (mxF h.hi p.hi).q ≤ h.hi.q; rcases mxF_or h.hi p.hi with e | e <;> rw [e] <;> grind
theorem Sub.trans {a b c : I} (h : Sub a b) (k : Sub b c) : Sub a c := ⟨Rat.le_trans k.lo h.lo, Rat.le_trans h.hi k.hi⟩
theorem Sub.refl (a : I) : Sub a a := ⟨Rat.le_refl, Rat.le_refl⟩
theorem has_adj {a b q : F} (hk : b.k ≤ a.k + 1) (h : hasB ⟨a, b⟩ q = true) : q = a ∨ q = b := by
  unfold hasB at h
  simp only [Bool.and_eq_true, decide_eq_true_iff] at h
  have := h.1.2; have := h.2
  rcases (show q.k = a.k ∨ q.k = b.k by omega) with e | e
  · exact .inl (F.ext' e)
  · exact .inr (F.ext' e)
theorem sc_adj {a b : F} (b1 : 0 ≤ a.q) (b2 : b.q ≤ 1) (hk : a.k ≤ b.k ∧ b.k ≤ a.k + 1) (hd : b.q - a.q ≤ 2 * ulp) : wd (sinM atR a b) ≤ 200 * ulp ∧ wd (cosM atR a b) ≤ 200 * ulp := by
  have hT := atR_two b1 b2 hk hd
  have ia := atR_in a; have ib := atR_in b
  have q1h := of_decide_eq_true quart1; have q3h := of_decide_eq_true quart3; have q2h := of_decide_eq_true quart2
  have mn := fun x y => mnF_q x y
  have mx := fun x y => mxF_q x y
  have sub1 : Sub (topM (hasB ⟨a, b⟩ q1) (hullI (atR a).1 (atR b).1) oneI64) (hullI (atR a).1 (atR b).1) := by
    cases h : hasB ⟨a, b⟩ q1
    · exact Sub.refl _
    · refine hull_top ?_ ?_
      · exact Rat.le_trans (mn _ _).1 (q_le.2 (show (atR a).1.lo.k ≤ one64.k by have := ia.1.rt; have := ia.1.hi; omega))
      · rcases has_adj hk.2 h with e | e
        · exact Rat.le_trans (q_le.2 (show one64.k ≤ (atR a).1.hi.k by rw [← e, q1h]; omega)) (mx _ _).1
        · exact Rat.le_trans (q_le.2 (show one64.k ≤ (atR b).1.hi.k by rw [← e, q1h]; omega)) (mx _ _).2
  have sub3 : Sub (sinM atR a b) (hullI (atR a).1 (atR b).1) := by
    refine Sub.trans ?_ sub1
    show Sub (topM (hasB ⟨a, b⟩ q3) (topM (hasB ⟨a, b⟩ q1) (hullI (atR a).1 (atR b).1) oneI64) moneI) _
    cases h : hasB ⟨a, b⟩ q3
    · exact Sub.refl _
    · have t1 := @top_lo (hasB ⟨a, b⟩ q1) (hullI (atR a).1 (atR b).1) oneI64
      have t2 := @top_hi (hasB ⟨a, b⟩ q1) (hullI (atR a).1 (atR b).1) oneI64
      refine hull_top ?_ ?_
      · refine Rat.le_trans (q_le.2 t1) ?_
        rcases has_adj hk.2 h with e | e
        · exact Rat.le_trans (mn _ _).1 (q_le.2 (show (atR a).1.lo.k ≤ mone64.k by rw [← e, q3h]; omega))
        · exact Rat.le_trans (mn _ _).2 (q_le.2 (show (atR b).1.lo.k ≤ mone64.k by rw [← e, q3h]; omega))
      · refine Rat.le_trans ?_ (q_le.2 t2)
        exact Rat.le_trans (q_le.2 (show mone64.k ≤ (atR a).1.hi.k by have := ia.1.rt; have := ia.1.lo; omega)) (mx _ _).1
  have sub2 : Sub (cosM atR a b) (hullI (atR a).2 (atR b).2) := by
    show Sub (topM (hasB ⟨a, b⟩ q2) (hullI (atR a).2 (atR b).2) moneI) _
    cases h : hasB ⟨a, b⟩ q2
    · exact Sub.refl _
    · refine hull_top ?_ ?_
      · rcases has_adj hk.2 h with e | e
        · exact Rat.le_trans (mn _ _).1 (q_le.2 (show (atR a).2.lo.k ≤ mone64.k by rw [← e, q2h]; omega))
        · exact Rat.le_trans (mn _ _).2 (q_le.2 (show (atR b).2.lo.k ≤ mone64.k by rw [← e, q2h]; omega))
      · exact Rat.le_trans (q_le.2 (show mone64.k ≤ (atR a).2.hi.k by have := ia.2.rt; have := ia.2.lo; omega)) (mx _ _).1
  exact ⟨Rat.le_trans sub3.wd hT.s, Rat.le_trans sub2.wd hT.c⟩
end Bu
namespace Bu
set_option linter.all false
open Rx Go

theorem z_diff {x y c : F} (h : x.q - y.q ≤ c.q) : x.z - y.z ≤ c.z := by
  have h1 := Rat.mul_nonneg (show 0 ≤ c.q - (x.q - y.q) by grind) (Rat.le_of_lt S_gt)
  have e1 := F.q_mul x; have e2 := F.q_mul y; have e3 := F.q_mul c
  have h2 : ((x.z - y.z : Int) : Rat) ≤ ((c.z : Int) : Rat) := by
    rw [Rat.intCast_sub, ← e1, ← e2, ← e3]
    generalize (S : Rat) = s at *
    grind
  exact Rat.intCast_le_intCast.1 h2
/-- the nearest difference is no more than what is no less than the difference -/
theorem sub_le {x y c : F} (h0 : y.q ≤ x.q) (hc : 0 < c.k) (h : x.q - y.q ≤ c.q) : ∃ D : F, Ieee.double.sub x.b y.b = some D.b ∧ D.k ≤ c.k := by
  have h1 := z_diff h
  have h2 := q_le_z.1 h0
  obtain ⟨r, hr⟩ := Int.eq_ofNat_of_zero_le (show 0 ≤ c.k by omega)
  have hT := c.hk
  have hS : (nv r : Int) = c.z := by
    have e := nvZ_natCast r
    have : c.z = nvZ c.k := rfl
    rw [this, hr]; exact e.symm
  rw [sub_F]
  by_cases g : x.z - y.z = 0
  · rw [if_pos g]
    exact ⟨F.zero, rfl, by show (0 : Int) ≤ c.k; omega⟩
  · have hn : near (x.z - y.z).natAbs 1 ≤ r := near_le (by decide) (by rw [Nat.mul_one]; omega)
    rw [if_neg g, decide_eq_false (by omega), Nat.min_eq_left (by omega), word_F _ _ (by omega) (by simp)]
    refine ⟨_, rfl, ?_⟩
    rw [if_neg (by decide), F.of_k (by omega)]
    omega
/-- a draw's interval: one number, or two that are next to one another -/
theorem unI_adj (n : Int) (h0 : 0 ≤ n) (h1 : n ≤ 18446744073709551615) : ((unI n).lo.k ≤ (unI n).hi.k ∧ (unI n).hi.k ≤ (unI n).lo.k + 1) ∧ (unI n).hi.q - (unI n).lo.q ≤ 2 * ulp ∧ ((unI n).hi.q = (unI n).lo.q ∨ 1 / 2048 ≤ (unI n).lo.q) := by
  have hu := ulp_pos
  have hn : n.toNat < 18446744073709551616 := by omega
  have hU := unI_U n h0 h1
  have l1 := hU.lo; have l2 := hU.rt; have l3 := hU.hi
  by_cases c : n.toNat % 2 ^ unitCut n.toNat = 0
  · have e : (unI n).hi = (unI n).lo := by
      show (unitOf n.toNat).hi = unitLo n.toNat
      unfold unitOf; simp only [if_pos c]
    rw [e]
    exact ⟨⟨by omega, by omega⟩, by grind, .inl rfl⟩
  · have e : (unI n).hi = (nextF (unitLo n.toNat) true).1 := by
      show (unitOf n.toNat).hi = _
      unfold unitOf; simp only [if_neg c]
    have hk := (nextF_up (unitLo n.toNat) (unitLo_lt n.toNat hn)).1
    have hk2 : (unI n).hi.k = (unI n).lo.k + 1 := by rw [e]; exact hk
    refine ⟨⟨by omega, by omega⟩, ?_, .inr ?_⟩
    · obtain ⟨d, d1, d2⟩ := above l1 (by grind)
      have := q_lt.1 d1
      have h3 : (unI n).hi.q ≤ d.q := q_le.2 (by omega)
      grind
    · have hm := unit_m n.toNat hn
      have hP : P = 4503599627370496 := rfl
      have c0 : unitCut n.toNat ≠ 0 := by
        intro h; apply c; rw [h]; omega
      have hz := unitLo_z n.toNat hn
      have h3 : 9007199254740992 * Q64 ≤ n.toNat / 2 ^ unitCut n.toNat * 2 ^ unitCut n.toNat * Q64 := by
        refine Nat.mul_le_mul_right _ ?_
        have h4 : 2 ^ 1 ≤ 2 ^ unitCut n.toNat := Nat.pow_le_pow_right (by omega) (by omega)
        have h5 := Nat.mul_le_mul (hm.2.2.resolve_left c0) h4
        omega
      have h6 : ((9007199254740992 * Q64 : Nat) : Int) ≤ (unI n).lo.z := by
        show _ ≤ (unitLo n.toNat).z
        rw [hz]; exact Int.ofNat_le.2 h3
      have h7 := Rat.intCast_le_intCast.2 h6
      rw [← F.q_mul, Rat.intCast_natCast, Rat.natCast_mul] at h7
      have hS : (S : Rat) = 18446744073709551616 * ((Q64 : Nat) : Rat) := by
        have : ((S : Nat) : Rat) = ((18446744073709551616 * Q64 : Nat) : Rat) := by rw [← S_Q64]
        rw [this, Rat.natCast_mul]; rfl
      rw [hS] at h7
      have hq := natq_pos Q64_pos
      have e1 : ((9007199254740992 : Nat) : Rat) = 9007199254740992 := rfl
      rw [e1] at h7
      generalize ((Q64 : Nat) : Rat) = w at *
      refine Rat.le_of_mul_le_mul_right (c := w) ?_ hq
      grind
theorem r_near {a b : Int} {D : DrawF a b} (h0 : 0 ≤ a) (h1 : a ≤ 18446744073709551615) (hD : DrawP a b D) : wd D.r ≤ 202 * ulp := by
  have hu := ulp_pos
  have hu1 : ulp ≤ 1 / 1048576 := by unfold ulp; grind
  have hU := unI_U a h0 h1
  have l1 := hU.lo; have l2 := hU.rt; have l3 := hU.hi
  obtain ⟨_, k1, k2⟩ := unI_adj a h0 h1
  have r0 := hD.r1.nn
  have key : (unI a).hi.q - (unI a).lo.q ≤ 2 * (200 * ulp - 2 * ulp) * D.r.lo.q + (200 * ulp - 2 * ulp) * (200 * ulp - 2 * ulp) := by
    have p1 := Rat.mul_nonneg (show 0 ≤ 200 * ulp - 2 * ulp by grind) r0
    have p2 := sq_nn (200 * ulp - 2 * ulp)
    rcases k2 with e | e
    · grind
    · have h64 : ∃ c : F, c.q = 1 / 64 := by
        obtain ⟨c, hc⟩ := grid 1 (by omega) 6 (by omega) (by omega)
        have e8 : ((2 ^ 6 : Nat) : Rat) = 64 := rfl
        have e5 : ((1 : Int) : Rat) = 1 := rfl
        rw [e8, e5] at hc; exact ⟨c, by grind⟩
      obtain ⟨c, hc⟩ := h64
      have := hD.r1.top c (by rw [hc]; grind) (by rw [hc]; grind)
      rw [hc] at this
      have p3 := Rat.mul_nonneg (show 0 ≤ 200 * ulp - 2 * ulp by grind) (show 0 ≤ D.r.lo.q - 1 / 64 by grind)
      grind
  have := root_near hD.r1 hD.r2 l2 l3 (200 * ulp) (by grind) (by grind) key
  unfold wd
  grind
def gam : Rat := 1 / 134217728
theorem gam_sq : gam * gam = 1 / 2 * ulp := by decide +kernel
theorem gam_ulp : decide (1024 * ulp ≤ gam ∧ gam ≤ 1 / 64 ∧ 4 * gam = 1 / 33554432) = true := by decide +kernel
theorem z_near {a b : Int} {D : DrawF a b} (h0 : 0 ≤ a) (h1 : a ≤ 18446744073709551615) (hD : DrawP a b D) : wd D.z ≤ 1 / 33554432 := by
  have hu := ulp_pos
  have hU := unI_U a h0 h1
  have l1 := hU.lo; have l2 := hU.rt; have l3 := hU.hi
  obtain ⟨_, k1, _⟩ := unI_adj a h0 h1
  have d1 := hD.du.lo; have d2 := hD.du.rt; have d3 := hD.du.hi
  have n1 := hD.d1.near1 (by grind) (by grind)
  have n2 := hD.d2.near1 (by grind) (by grind)
  have r0 := hD.z1.nn
  have g1 := gam_sq
  obtain ⟨g2, g3, g4⟩ := of_decide_eq_true gam_ulp
  rw [← g4]
  generalize gam = γ at *
  have key : D.d.hi.q - D.d.lo.q ≤ 2 * ((3 * γ + 2 * ulp) - 2 * ulp) * D.z.lo.q + ((3 * γ + 2 * ulp) - 2 * ulp) * ((3 * γ + 2 * ulp) - 2 * ulp) := by
    have p1 := Rat.mul_nonneg (show (0 : Rat) ≤ γ by grind) r0
    have e : 3 * γ + 2 * ulp - 2 * ulp = 3 * γ := by grind
    rw [e]
    grind
  have := root_near hD.z1 hD.z2 d2 d3 (3 * γ + 2 * ulp) (by grind) (by grind) key
  unfold wd
  grind
theorem x_near {a b : Int} {D : DrawF a b} (h0 : 0 ≤ a) (h1 : a ≤ 18446744073709551615) (g0 : 0 ≤ b) (g1 : b ≤ 18446744073709551615) (hD : DrawP a b D) : wd D.x ≤ 900 * ulp := by
  have hu := ulp_pos
  have hu1 : ulp ≤ 1 / 1048576 := by unfold ulp; grind
  have hr := r_near h0 h1 hD
  have hU := unI_U b g0 g1
  obtain ⟨k0, k1, _⟩ := unI_adj b g0 g1
  have hc := (sc_adj hU.lo hU.hi k0 k1).2
  have ci := cosM_in (unI b).lo (unI b).hi
  have c1 := q_le.2 ci.lo; have c2 := q_le.2 ci.hi; have c3 := q_le.2 ci.rt
  rw [mone_q] at c1; rw [one_q] at c2
  have ru := hD.ru
  have r1 := ru.lo; have r2 := ru.rt; have r3 := ru.hi
  have hm := hD.mx
  unfold wd at *
  generalize (cosM atR (unI b).lo (unI b).hi).lo.q = c at *
  generalize (cosM atR (unI b).lo (unI b).hi).hi.q = d at *
  generalize D.r.lo.q = u at *
  generalize D.r.hi.q = v at *
  have k2 := Rat.mul_nonneg r1 (show 0 ≤ d - c by grind)
  have k3 := Rat.mul_nonneg (show 0 ≤ 1 - u by grind) (show 0 ≤ d - c by grind)
  have k4 := Rat.mul_nonneg (show 0 ≤ v - u by grind) (show 0 ≤ 1 - c by grind)
  have k5 := Rat.mul_nonneg (show 0 ≤ v - u by grind) (show 0 ≤ 1 + c by grind)
  have k6 := Rat.mul_nonneg (show 0 ≤ v by grind) (show 0 ≤ d - c by grind)
  have k7 := Rat.mul_nonneg (show 0 ≤ 1 - v by grind) (show 0 ≤ d - c by grind)
  have b1 := prod1 r1 (by grind) c1 (by grind)
  have b2 := prod1 r1 (by grind) (show -1 ≤ d by grind) c2
  have b3 := prod1 (show 0 ≤ v by grind) r3 c1 (by grind)
  have b4 := prod1 (show 0 ≤ v by grind) r3 (show -1 ≤ d by grind) c2
  have s2 : u * c - 402 * ulp ≤ u * d ∧ u * d ≤ u * c + 402 * ulp := by constructor <;> grind
  have s3 : u * c - 402 * ulp ≤ v * c ∧ v * c ≤ u * c + 402 * ulp := by constructor <;> grind
  have s4 : u * c - 402 * ulp ≤ v * d ∧ v * d ≤ u * c + 402 * ulp := by constructor <;> grind
  generalize u * c = x1 at *
  generalize u * d = x2 at *
  generalize v * c = x3 at *
  generalize v * d = x4 at *
  have w1 := hm.near_hi (m := x1 + 402 * ulp) (by grind) s2.2 s3.2 s4.2 ⟨b1.1, b1.2, b2.1, b2.2, b3.1, b3.2, b4.1, b4.2⟩
  have w2 := hm.near_lo (m := x1 - 402 * ulp) (by grind) s2.1 s3.1 s4.1 ⟨b1.1, b1.2, b2.1, b2.2, b3.1, b3.2, b4.1, b4.2⟩
  grind
/-- names -/
structure Kx where
  dv : Int → Int → I × I × I
  uo : Int → I
  u : Int → Bool
  ib : I → Bool
  si : I → I
  co : I → I
  add : Int → I → I → I × Int
  sub : Int → I → I → I × Int
  mul : Int → I → I → I × Int
  sqr : Int → I → I × Int
  num : Int → F → I × Int
def xFlat (N : Kx) (a b : Int) : I × Int := N.add (N.sqr (N.sqr 0 (N.dv a b).1).2 (N.dv a b).2.1).2 (N.sqr 0 (N.dv a b).1).1 (N.sqr (N.sqr 0 (N.dv a b).1).2 (N.dv a b).2.1).1
def xHigh (N : Kx) (a b : Int) : I × Int := N.sqr (xFlat N a b).2 (N.dv a b).2.2
def xOne (N : Kx) (a b : Int) : I × Int := N.num (xHigh N a b).2 one64
def xSub (N : Kx) (a b : Int) : I × Int := N.sub (xOne N a b).2 (xOne N a b).1 (N.uo a)
def xSum (N : Kx) (a b : Int) : I × Int := N.add (xSub N a b).2 (xFlat N a b).1 (xHigh N a b).1
def xM1 (N : Kx) (a b : Int) : I × Int := N.mul (xSum N a b).2 (N.dv a b).1 (N.si (N.uo b))
def xM2 (N : Kx) (a b : Int) : I × Int := N.mul (xM1 N a b).2 (N.dv a b).2.1 (N.co (N.uo b))
def sbO (a : I) (c : Nat) : Obs := [(decide ((toF ((Ieee.double.sub a.hi.b a.lo.b).getD 0)).k ≤ (toF c).k), true), ((Ieee.double.sub a.hi.b a.lo.b).isSome, true), (rightB ((Ieee.double.sub a.hi.b a.lo.b).getD 0), true)]
def crOb (N : Kx) (a b : Int) : Obs := sbO (N.dv a b).2.2 4494592428115755008 ++ sbO (N.dv a b).1 4427038433705197568 ++
  [(decide ((N.dv a b).2.2.hi.k ≤ one64.k), true), (decide ((toF 0).k ≤ (N.dv a b).2.2.lo.k), true),
   (decide ((xM2 N a b).1.lo.k ≤ (xM1 N a b).1.hi.k), true), (decide ((xM1 N a b).1.lo.k ≤ (xM2 N a b).1.hi.k), true),
   (decide ((xOne N a b).1.lo.k ≤ (xSum N a b).1.hi.k), true), (decide ((xSum N a b).1.lo.k ≤ (xOne N a b).1.hi.k), true),
   (decide ((xSub N a b).1.lo.k ≤ (xHigh N a b).1.hi.k), true), (decide ((xHigh N a b).1.lo.k ≤ (xSub N a b).1.hi.k), true),
   (decide ((N.uo a).lo.k ≤ (xFlat N a b).1.hi.k), true), (decide ((xFlat N a b).1.lo.k ≤ (N.uo a).hi.k), true),
   (decide ((xOne N a b).2 = 0), true), (N.ib (N.uo b), true), (N.u b, true), (N.u a, true), (N.u a, true), (N.u b, true)]
def KxR : Kx := ⟨dV (KqR atR), unI, uB, fun u => inB u.lo u.hi, fun u => sinM atR u.lo u.hi, fun u => cosM atR u.lo u.hi, KTR.add, KTR.sub, KTR.mul, KTR.sqr, KTR.num⟩
theorem clamp_q (x : F) : ((mnF (mxF x mone64) one64).q = x.q ∧ -1 ≤ x.q ∧ x.q ≤ 1) ∨ ((mnF (mxF x mone64) one64).q = -1 ∧ x.q ≤ -1) ∨ ((mnF (mxF x mone64) one64).q = 1 ∧ 1 ≤ x.q) := by
  have m1 := mxF_q x mone64
  have m2 := mnF_q (mxF x mone64) one64
  rw [mone_q] at m1
  rw [one_q] at m2
  rcases mnF_or (mxF x mone64) one64 with h | h
  · rcases mxF_or x mone64 with g | g
    · left; rw [h, g] at m2 ⊢; rw [g] at m1; exact ⟨rfl, m1.2, m2.2⟩
    · right; left; rw [h, g] at m2 ⊢; rw [g, mone_q] at m1; rw [mone_q]; exact ⟨rfl, m1.1⟩
  · rw [h, one_q] at m2 ⊢
    rcases mxF_or x mone64 with g | g
    · right; right; rw [g] at m2; exact ⟨rfl, m2.1⟩
    · exfalso; rw [g, mone_q] at m2; have := m2.1; grind
theorem kept_wd {a : I} (h : a.lo.q ≤ a.hi.q) : wd (keptI a mone64 one64) ≤ wd a := by
  have h1 := clamp_q a.lo
  have h2 := clamp_q a.hi
  unfold wd
  show (mnF (mxF a.hi mone64) one64).q - (mnF (mxF a.lo mone64) one64).q ≤ _
  grind
theorem sb_ok {a : I} {c : Nat} (h0 : a.lo.q ≤ a.hi.q) (hc : 0 < (toF c).k) (h : wd a ≤ (toF c).q) : obsB (sbO a c) = true := by
  obtain ⟨D, e, k⟩ := sub_le h0 hc h
  have y : ∀ {c : Bool} {r : Obs}, c = true → obsB r = true → obsB ((c, true) :: r) = true := fun h k => by unfold obsB at *; rw [List.all_cons, h, k]; rfl
  unfold sbO
  rw [e, Option.getD_some, toF_F]
  exact y (decide_eq_true k) (y rfl (y (right_F D) rfl))
set_option maxRecDepth 100000 in
theorem c25_q : (toF 4494592428115755008).q * 33554432 = 1 ∧ 0 < (toF 4494592428115755008).k := ⟨q_of' (n := 1) (s := 25) (by decide +kernel) rfl, of_decide_eq_true (by decide +kernel)⟩
set_option maxRecDepth 100000 in
theorem c40_q : (toF 4427038433705197568).q * 1099511627776 = 1 ∧ 0 < (toF 4427038433705197568).k := ⟨q_of' (n := 1) (s := 40) (by decide +kernel) rfl, of_decide_eq_true (by decide +kernel)⟩
theorem two_ex : ∃ c : F, c.q = 2 := by
  obtain ⟨c, hc⟩ := grid 2 (by omega) 0 (by omega) (by omega)
  exact ⟨c, by have e1 : ((2 ^ 0 : Nat) : Rat) = 1 := rfl; have e2 : ((2 : Int) : Rat) = 2 := rfl; rw [e1, e2] at hc; grind⟩
theorem U01.in1 {a : I} (h : U01 a) : In1 a := by
  have h1 := h.lo; have h2 := h.rt; have h3 := h.hi
  exact ⟨q_le.1 (by rw [mone_q]; grind), q_le.1 (by rw [one_q]; exact h3), q_le.1 h2⟩
theorem crOb_ok {a b : Int} (h0 : 0 ≤ a) (h1 : a ≤ 18446744073709551615) (g0 : 0 ≤ b) (g1 : b ≤ 18446744073709551615) : obsB (crOb KxR a b) = true := by
  obtain ⟨D, hD⟩ := draw_ok (a := a) (b := b) h0 h1
  have ib := unI_in b g0 g1
  have hU := unI_U a h0 h1
  have u1 := hU.lo; have u2 := hU.rt; have u3 := hU.hi
  have ez : (KxR.dv a b).2.2 = D.z := by show (dV (KqR atR) a b).2.2 = _; unfold dV; rw [hD.ez]; exact keptZ hD.zu
  have ex : (KxR.dv a b).1 = keptI D.x mone64 one64 := by show (dV (KqR atR) a b).1 = _; unfold dV; rw [hD.ex]
  have ey : (KxR.dv a b).2.1 = keptI D.y mone64 one64 := by show (dV (KqR atR) a b).2.1 = _; unfold dV; rw [hD.ey]
  have xr := Rat.le_trans hD.mx.lo.1 hD.mx.hi.1
  have yr := Rat.le_trans hD.my.lo.1 hD.my.hi.1
  have iX := kept_in xr
  have iY := kept_in yr
  -- flat
  obtain ⟨fl, f1, f2, f3⟩ := flat_ok h0 h1 g0 g1
  have eF : xFlat KxR a b = (fl, 0) := f1
  have smF : Sm fl := by
    obtain ⟨p, p1, pu, _⟩ := sqr_in iX
    obtain ⟨q, q1, qu, _⟩ := sqr_in iY
    obtain ⟨r, r1, r2, r3⟩ := cAdd_ok pu.sm qu.sm
    have e : xFlat KxR a b = (r, 0) := by
      unfold xFlat
      rw [ex, ey]
      have k1 : KxR.sqr 0 (keptI D.x mone64 one64) = (p, 0) := p1
      have k2 : KxR.sqr 0 (keptI D.y mone64 one64) = (q, 0) := q1
      simp only [k1, k2]; exact r1
    rw [eF] at e
    have e' := (Prod.mk.inj e).1
    subst e'
    obtain ⟨t, ht⟩ := two_ex
    have a1 := pu.lo; have a2 := pu.rt; have a3 := pu.hi; have b1 := qu.lo; have b2 := qu.rt; have b3 := qu.hi
    have l1 : 0 ≤ fl.lo.q := by rw [← q_zero]; exact r2.top F.zero (by rw [q_zero]; grind)
    have l2 : fl.hi.q ≤ 2 := by rw [← ht]; exact r3.bot t (by rw [ht]; grind)
    exact ⟨by grind, by have := r2.le; have := r3.ge; grind, by grind⟩
  -- high
  have zu := hD.zu
  have z1 := zu.lo; have z2 := zu.rt; have z3 := zu.hi
  obtain ⟨h, e3, hu, hm⟩ := sqr_in zu.in1
  have eH : xHigh KxR a b = (h, 0) := by unfold xHigh; rw [eF, ez]; exact e3
  have hl := (hm D.z.lo.q ⟨Rat.le_refl, z2⟩).lo
  have hh := (hm D.z.hi.q ⟨z2, Rat.le_refl⟩).hi
  have eO : xOne KxR a b = (⟨one64, one64⟩, 0) := by unfold xOne; rw [eH]; exact cNum_ok one64
  have eS : xSub KxR a b = (D.d, 0) := by
    have := hD.ed
    unfold dD dO at this
    rw [hD.ey] at this
    unfold xSub; rw [eO]; exact this
  obtain ⟨s, e5, s1, s2⟩ := cAdd_ok smF hu.sm
  have eA : xSum KxR a b = (s, 0) := by unfold xSum; rw [eS, eF, eH]; exact e5
  have si := sinM_in (unI b).lo (unI b).hi
  have ci := cosM_in (unI b).lo (unI b).hi
  obtain ⟨m, e6, m1⟩ := cMul_ok iX.sm si.sm
  obtain ⟨k, e7, k1⟩ := cMul_ok iY.sm ci.sm
  have eM : xM1 KxR a b = (m, 0) := by unfold xM1; rw [eA, ex]; exact e6
  have eK : xM2 KxR a b = (k, 0) := by unfold xM2; rw [eM, ey]; exact e7
  -- a value of both
  obtain ⟨⟨sv, cv, n1, n2, n3⟩, _⟩ := circ_M ib
  obtain ⟨⟨a1, a2⟩, a3, a4⟩ := abs_of_sq n3
  have ru := hD.ru
  have r1 := ru.lo; have r2 := ru.rt; have r3 := ru.hi
  have ml : Mem D.r D.r.lo.q := ⟨Rat.le_refl, r2⟩
  have b1 := prod1 r1 (by grind) a3 a4
  have b2 := prod1 r1 (by grind) a1 a2
  have vm := mul_mem m1 ((keptI_q D.x).2.2.2.2.2 _ (mul_mem hD.mx ml n2) b1.1 b1.2) n1
  have vk := mul_mem k1 ((keptI_q D.y).2.2.2.2.2 _ (mul_mem hD.my ml n1) b2.1 b2.2) n2
  have ev : D.r.lo.q * cv * sv = D.r.lo.q * sv * cv := by grind
  rw [ev] at vm
  -- the ends
  have d1 := hD.d1.le; have d2 := hD.d2.ge
  have t1 := hD.z1.le; have t2 := hD.z2.ge
  have dr := hD.du.rt
  have p1 := s1.le; have p2 := s2.ge
  have y : ∀ {c : Bool} {r : Obs}, c = true → obsB r = true → obsB ((c, true) :: r) = true := fun h k => by unfold obsB at *; rw [List.all_cons, h, k]; rfl
  have le : ∀ {p q : F}, p.q ≤ q.q → decide (p.k ≤ q.k) = true := fun h => decide_eq_true (q_le.1 h)
  have both : ∀ {a b : Obs}, obsB a = true → obsB b = true → obsB (a ++ b) = true := fun ha hb => by unfold obsB at *; rw [List.all_append, ha, hb]; rfl
  have ub : ∀ n : Int, 0 ≤ n → n ≤ 18446744073709551615 → uB n = true := fun n h1 h2 => decide_eq_true ⟨h1, h2⟩
  have q25 := c25_q
  have q40 := c40_q
  unfold crOb
  rw [ez, ex, eM, eK, eO, eA, eS, eH, eF]
  refine both (both (sb_ok z2 q25.2 ?_) (sb_ok (q_le.2 iX.rt) q40.2 ?_)) ?_
  · have := z_near h0 h1 hD
    grind
  · have w := x_near h0 h1 g0 g1 hD
    have w2 := kept_wd xr
    have eu : 8192 * ulp * 1099511627776 = 1 := by decide +kernel
    have := ulp_pos
    grind
  · refine y (le (by rw [one_q]; exact z3)) (y (le (by rw [zero0_q]; exact z1)) (y (le (Rat.le_trans vk.lo vm.hi)) (y (le (Rat.le_trans vm.lo vk.hi)) (y (le ?_) (y (le ?_) (y (le ?_) (y (le ?_) (y (le ?_) (y (le ?_) (y rfl (y ib (y (ub b g0 g1) (y (ub a h0 h1) (y (ub a h0 h1) (y (ub b g0 g1) rfl)))))))))))))))
    · rw [one_q]; grind
    · rw [one_q]; grind
    · show D.d.lo.q ≤ h.hi.q; grind
    · show h.lo.q ≤ D.d.hi.q; grind
    · show (unI a).lo.q ≤ fl.hi.q; grind
    · show fl.lo.q ≤ (unI a).hi.q; grind
end Bu
