/- CosineRound, plain: how narrow roots, sines and cosines of draws are. -/
import Derived.Test.YtiipaicbbmkagaaIj
namespace Bu
set_option linter.all false
open Rx Go

/-- a number just above -/
theorem above {y : Rat} (h0 : 0 ≤ y) (h1 : y ≤ 3 / 2) : ∃ c : F, y < c.q ∧ c.q ≤ y + 2 * ulp := by
  have e52 : ((2 ^ 52 : Nat) : Rat) = 4503599627370496 := rfl
  have a1 := Rat.floor_le (y * 4503599627370496)
  have a2 := Rat.lt_floor_add_one (y * 4503599627370496)
  have f0 : (0 : Int) ≤ (y * 4503599627370496).floor := Rat.le_floor_iff.2 (by have := Rat.mul_nonneg h0 (show (0 : Rat) ≤ 4503599627370496 by grind); simpa using this)
  have f1 : (y * 4503599627370496).floor ≤ 6755399441055744 := by
    have : (((y * 4503599627370496).floor : Int) : Rat) ≤ ((6755399441055744 : Int) : Rat) := Rat.le_trans a1 (by have e : ((6755399441055744 : Int) : Rat) = 6755399441055744 := rfl; rw [e]; grind)
    exact Rat.intCast_le_intCast.1 this
  obtain ⟨c, hc⟩ := grid ((y * 4503599627370496).floor + 1) (by omega) 52 (by omega) (by omega)
  rw [e52] at hc
  have e1 : (((y * 4503599627370496).floor + 1 : Int) : Rat) = (((y * 4503599627370496).floor : Int) : Rat) + 1 := by rw [Rat.intCast_add]; rfl
  rw [e1] at a2 hc
  generalize (((y * 4503599627370496).floor : Int) : Rat) = m at *
  refine ⟨c, by grind, by unfold ulp; grind⟩
/-- a root, up, is not far above one, down -/
theorem root_near {r s a b : F} (h1 : SqD r a) (h2 : SqU s b) (ha : a.q ≤ b.q) (hb : b.q ≤ 1) (g : Rat) (hg0 : 2 * ulp ≤ g) (hg : g ≤ 1 / 4) (hg2 : b.q - a.q ≤ 2 * (g - 2 * ulp) * r.q + (g - 2 * ulp) * (g - 2 * ulp)) : s.q ≤ r.q + g + 2 * ulp := by
  have hu := ulp_pos
  have hu1 : ulp ≤ 1 / 1048576 := by unfold ulp; grind
  have r0 := h1.nn
  have r1 : r.q ≤ 1 := sq_le' r0 (by grind) (by have := h1.le; grind)
  obtain ⟨c, c1, c2⟩ := above r0 (by grind)
  have k1 : a.q < c.q * c.q := by
    apply Rat.not_le.1
    intro k
    have := h1.top c (by grind) k
    grind
  obtain ⟨d, d1, d2⟩ := above (show 0 ≤ r.q + g by grind) (by grind)
  have k2 := sq_bd (x := c.q) (m := r.q + 2 * ulp) (by grind) c2
  have k3 : (r.q + g) * (r.q + g) ≤ d.q * d.q := sq_bd (by grind) (by grind)
  have e1 : (r.q + g) * (r.q + g) = (r.q + 2 * ulp) * (r.q + 2 * ulp) + (2 * (g - 2 * ulp) * r.q + (g - 2 * ulp) * (g - 2 * ulp)) + 4 * ulp * (g - 2 * ulp) := by grind
  have k4 := Rat.mul_nonneg (Rat.le_of_lt hu) (show 0 ≤ g - 2 * ulp by grind)
  exact Rat.le_trans (h2.bot d (by grind) (by grind)) (by grind)

/-- one within another one -/
structure Sub (a b : I) : Prop where
  lo : b.lo.q ≤ a.lo.q
  hi : a.hi.q ≤ b.hi.q
theorem hull_sub {a b c d : I} (h1 : Sub a c) (h2 : Sub b d) : Sub (hullI a b) (hullI c d) := by
  have m1 := mnF_q c.lo d.lo
  have m2 := mxF_q c.hi d.hi
  have a1 := h1.lo; have a2 := h1.hi; have b1 := h2.lo; have b2 := h2.hi
  constructor
  · show (mnF c.lo d.lo).q ≤ (mnF a.lo b.lo).q
    rcases mnF_or a.lo b.lo with e | e <;> rw [e] <;> grind
  · show (mxF a.hi b.hi).q ≤ (mxF c.hi d.hi).q
    rcases mxF_or a.hi b.hi with e | e <;> rw [e] <;> grind
theorem Sub.wd {a b : I} (h : Sub a b) : wd a ≤ wd b := by have := h.lo; have := h.hi; unfold Bu.wd; grind
theorem withI_sub {a : I} {v : Rat} (h : Mem a v) (h0 : -1 ≤ v) (h1 : v ≤ 1) : Sub (withI a) a := by
  rw [withI_eq h h0 h1]
  exact ⟨(mxF_q a.lo mone64).1, (mnF_q a.hi one64).1⟩
theorem turn_sub {a b : I} (h : Sub a b) : Sub (turnI a) (turnI b) := by
  have := h.lo; have := h.hi
  constructor
  · show b.hi.neg.q ≤ a.hi.neg.q; rw [q_neg, q_neg]; grind
  · show a.lo.neg.q ≤ b.lo.neg.q; rw [q_neg, q_neg]; grind
/-- two that hold values near to one another -/
theorem hull_wd {a b : I} {x y w1 w2 g : Rat} (hx : Mem a x) (hy : Mem b y) (h1 : wd a ≤ w1) (h2 : wd b ≤ w2) (hg : x - y ≤ g ∧ y - x ≤ g) : wd (hullI a b) ≤ w1 + w2 + g := by
  have a1 := hx.lo; have a2 := hx.hi; have b1 := hy.lo; have b2 := hy.hi
  unfold wd at *
  show (mxF a.hi b.hi).q - (mnF a.lo b.lo).q ≤ _
  rcases mxF_or a.hi b.hi with e | e <;> rcases mnF_or a.lo b.lo with f | f <;> rw [e, f] <;> grind
theorem wF_s : decide (wF (101 / 64 * (25 * ulp) + 2 * ulp) slQ (1 / 256) ≤ 60 * ulp) = true := by decide +kernel
theorem wF_c : decide (wF (101 / 64 * (25 * ulp) + 2 * ulp) clQ (1 / 256) ≤ 60 * ulp) = true := by decide +kernel
/-- two numbers in one eighth: their sines, their cosines are near -/
theorem atSC_two {q x y : F} (x1 : -(1 / 8) ≤ x.q - q.q) (x2 : x.q - q.q ≤ 1 / 8) (bx1 : 0 ≤ x.q) (bx2 : x.q ≤ 1) (y1 : -(1 / 8) ≤ y.q - q.q) (y2 : y.q - q.q ≤ 1 / 8) (by1 : 0 ≤ y.q) (by2 : y.q ≤ 1) (b3 : 0 ≤ q.q) (b4 : q.q ≤ 1)
    (hxy : x.q ≤ y.q) (hd : y.q - x.q ≤ 2 * ulp) :
    ∃ S C S2 C2, atS KTR KRR q x = (S, 0) ∧ atC KTR KRR q x = (C, 0) ∧ atS KTR KRR q y = (S2, 0) ∧ atC KTR KRR q y = (C2, 0) ∧ (Sm S ∧ U01 C ∧ Sm S2 ∧ U01 C2) ∧ wd (hullI S S2) ≤ 200 * ulp ∧ wd (hullI C C2) ≤ 200 * ulp ∧ Circ S C ∧ Circ S2 C2 := by
  have hu := ulp_pos
  have hu1 : ulp ≤ 1 / 1048576 := by unfold ulp; grind
  obtain ⟨t, e1, ht, wt, mt⟩ := atT_ok x1 x2 bx1 bx2 b3 b4
  obtain ⟨t2, e2, ht2, wt2, mt2⟩ := atT_ok y1 y2 by1 by2 b3 b4
  obtain ⟨S, C, s1, s2, s3, s4, s5, s6, s7⟩ := atSC_ok x1 x2 bx1 bx2 b3 b4
  obtain ⟨S2, C2, r1, r2, r3, r4, r5, r6, r7⟩ := atSC_ok y1 y2 by1 by2 b3 b4
  have a7 := s7 _ tau_mem
  have b7 := r7 _ tau_mem
  have zx := mt _ tau_mem
  have zy := mt2 _ tau_mem
  -- both angles' interval
  have hT : Ang (hullI t t2) := by
    have p1 := ht.lo; have p2 := ht.rt; have p3 := ht.hi; have q1 := ht2.lo; have q2 := ht2.rt; have q3 := ht2.hi
    have m1 := mnF_q t.lo t2.lo; have m2 := mxF_q t.hi t2.hi
    refine ⟨?_, ?_, ?_⟩
    · show _ ≤ (mnF t.lo t2.lo).q; rcases mnF_or t.lo t2.lo with e | e <;> rw [e] <;> grind
    · show (mnF t.lo t2.lo).q ≤ (mxF t.hi t2.hi).q; grind
    · show (mxF t.hi t2.hi).q ≤ _; rcases mxF_or t.hi t2.hi with e | e <;> rw [e] <;> grind
  have tl := tau_lo
  have ta : TAU.lo.q ≤ 63 / 10 ∧ 0 ≤ TAU.lo.q := by rw [tl]; constructor <;> grind
  have dz : TAU.lo.q * (y.q - q.q) - TAU.lo.q * (x.q - q.q) ≤ 63 / 5 * ulp ∧ 0 ≤ TAU.lo.q * (y.q - q.q) - TAU.lo.q * (x.q - q.q) := by
    have k1 := Rat.mul_nonneg ta.2 (show 0 ≤ y.q - x.q by grind)
    have k2 := Rat.mul_nonneg (show 0 ≤ 63 / 10 - TAU.lo.q by grind) (show 0 ≤ y.q - x.q by grind)
    constructor <;> grind
  have wT := hull_wd (g := 13 * ulp) zx zy wt wt2 (by constructor <;> grind)
  have mx : Mem (hullI t t2) (TAU.lo.q * (x.q - q.q)) := hull_mem zx
  have my : Mem (hullI t t2) (TAU.lo.q * (y.q - q.q)) := ⟨Rat.le_trans (mnF_q t.lo t2.lo).2 zy.lo, Rat.le_trans zy.hi (mxF_q t.hi t2.hi).2⟩
  obtain ⟨R, _, Ru, Rm, Rw⟩ := row_ok hT (D := toF 4646096334330265600) (by rw [sl_q.2]; grind) sl_2
  obtain ⟨G, _, Gu, Gm, Gw⟩ := row_ok hT (D := toF 4645392646888488960) (by rw [cl_q.2]; grind) cl_2
  rw [sl_q.1] at Rm Rw
  rw [cl_q.1] at Gm Gw
  have wT0 : 0 ≤ wd (hullI t t2) := by have := hT.rt; unfold wd; grind
  have R2 : wd R ≤ 60 * ulp := Rat.le_trans Rw (Rat.le_trans (wF_mono (by grind) slQ_2 (by grind) (by grind) Rat.le_refl) (of_decide_eq_true wF_s))
  have G2 : wd G ≤ 60 * ulp := Rat.le_trans Gw (Rat.le_trans (wF_mono (by grind) clQ_2 (by grind) (by grind) Rat.le_refl) (of_decide_eq_true wF_c))
  have Rx := (Rm _ mx).1; have Ry := (Rm _ my).1
  have Gx := (Gm _ mx).1; have Gy := (Gm _ my).1
  have z1 := a7.lo; have z2 := a7.hi; have z3 := b7.lo; have z4 := b7.hi
  have As := a7.s1; have Ac := a7.c1; have Bs := b7.s1; have Bc := b7.c1
  refine ⟨S, C, S2, C2, s1, s2, r1, r2, ⟨s3, s4, r3, r4⟩, ?_, ?_, a7.circ, b7.circ⟩
  · have u1 := Ru.lo; have u2 := Ru.hi
    have l1 := Rx.lo; have l2 := Rx.hi; have l3 := Ry.lo; have l4 := Ry.hi
    unfold wd at R2
    generalize TAU.lo.q * (x.q - q.q) = z at *
    generalize TAU.lo.q * (y.q - q.q) = z' at *
    generalize nestR (z * z) slQ 1 = v at *
    generalize nestR (z' * z') slQ 1 = v' at *
    have k1 := Rat.mul_nonneg (show 0 ≤ z' - z by grind) (show 0 ≤ v by grind)
    have k2 := Rat.mul_nonneg (show 0 ≤ z' - z by grind) (show 0 ≤ 1 - v by grind)
    have k3 := Rat.mul_nonneg (show 0 ≤ 1 - z' by grind) (show 0 ≤ 60 * ulp - (v - v') by grind)
    have k4 := Rat.mul_nonneg (show 0 ≤ 1 + z' by grind) (show 0 ≤ 60 * ulp - (v - v') by grind)
    have k5 := Rat.mul_nonneg (show 0 ≤ 1 - z' by grind) (show 0 ≤ 60 * ulp + (v - v') by grind)
    have k6 := Rat.mul_nonneg (show 0 ≤ 1 + z' by grind) (show 0 ≤ 60 * ulp + (v - v') by grind)
    have := hull_wd (g := 134 * ulp) As Bs s5 r5 (by constructor <;> grind)
    grind
  · have l1 := Gx.lo; have l2 := Gx.hi; have l3 := Gy.lo; have l4 := Gy.hi
    unfold wd at G2
    have := hull_wd (g := 60 * ulp) Ac Bc s6 r6 (by constructor <;> grind)
    grind
theorem hull_turn (a b : I) : wd (hullI (turnI a) (turnI b)) ≤ wd (hullI a b) := by
  have m1 := mnF_q a.lo b.lo
  have m2 := mxF_q a.hi b.hi
  unfold wd
  show (mxF a.lo.neg b.lo.neg).q - (mnF a.hi.neg b.hi.neg).q ≤ (mxF a.hi b.hi).q - (mnF a.lo b.lo).q
  rcases mxF_or a.lo.neg b.lo.neg with e | e <;> rcases mnF_or a.hi.neg b.hi.neg with f | f <;> rw [e, f, q_neg, q_neg] <;> grind
theorem circ_clip {S C : I} (h : Circ S C) : Sub (withI S) S ∧ Sub (withI C) C := by
  obtain ⟨⟨s, c, h1, h2, h3⟩, _⟩ := h
  obtain ⟨⟨a1, a2⟩, a3, a4⟩ := abs_of_sq h3
  exact ⟨withI_sub h1 a1 a2, withI_sub h2 a3 a4⟩
structure Two (p r : I × I) : Prop where
  s : wd (hullI p.1 r.1) ≤ 200 * ulp
  c : wd (hullI p.2 r.2) ≤ 200 * ulp
theorem atP_two {q x y : F} (x1 : -(1 / 8) ≤ x.q - q.q) (x2 : x.q - q.q ≤ 1 / 8) (bx1 : 0 ≤ x.q) (bx2 : x.q ≤ 1) (y1 : -(1 / 8) ≤ y.q - q.q) (y2 : y.q - q.q ≤ 1 / 8) (by1 : 0 ≤ y.q) (by2 : y.q ≤ 1) (b3 : 0 ≤ q.q) (b4 : q.q ≤ 1)
    (hxy : x.q ≤ y.q) (hd : y.q - x.q ≤ 2 * ulp) (j : Nat) : Two (atP KTR KRR withI j q x) (atP KTR KRR withI j q y) := by
  obtain ⟨S, C, S2, C2, e1, e2, e3, e4, ⟨s3, s4, r3, r4⟩, w1, w2, hc, hc2⟩ := atSC_two x1 x2 bx1 bx2 y1 y2 by1 by2 b3 b4 hxy hd
  have f1 : KTR.neg 0 S = (turnI S, 0) := cNeg_ok s3.rt
  have f2 : KTR.neg 0 C = (turnI C, 0) := cNeg_ok s4.rt
  have f3 : KTR.neg 0 S2 = (turnI S2, 0) := cNeg_ok r3.rt
  have f4 : KTR.neg 0 C2 = (turnI C2, 0) := cNeg_ok r4.rt
  have ts := Rat.le_trans (hull_turn S S2) w1
  have tc := Rat.le_trans (hull_turn C C2) w2
  have c1 := circ_clip hc; have c2 := circ_clip hc2
  have d1 := circ_clip hc.turn; have d2 := circ_clip hc2.turn
  have g1 := circ_clip hc.swap.turn; have g2 := circ_clip hc2.swap.turn
  unfold atP
  simp only [e1, e2, e3, e4, f1, f2, f3, f4]
  split
  · exact ⟨Rat.le_trans (hull_sub c1.1 c2.1).wd w1, Rat.le_trans (hull_sub c1.2 c2.2).wd w2⟩
  · exact ⟨Rat.le_trans (hull_sub c1.2 c2.2).wd w2, Rat.le_trans (hull_sub d1.1 d2.1).wd ts⟩
  · exact ⟨Rat.le_trans (hull_sub d1.1 d2.1).wd ts, Rat.le_trans (hull_sub g1.1 g2.1).wd tc⟩
  · exact ⟨Rat.le_trans (hull_sub g1.1 g2.1).wd tc, Rat.le_trans (hull_sub c1.1 c2.1).wd w1⟩
def crossB (c : F) : Bool := decide (((hullI (atR (F.of (c.k - 1))).1 (atR c).1).hi.z - (hullI (atR (F.of (c.k - 1))).1 (atR c).1).lo.z) * 9007199254740992 ≤ 200 * (S : Int)) && decide (((hullI (atR (F.of (c.k - 1))).2 (atR c).2).hi.z - (hullI (atR (F.of (c.k - 1))).2 (atR c).2).lo.z) * 9007199254740992 ≤ 200 * (S : Int))
set_option maxRecDepth 100000 in
theorem cross1 : crossB c1 = true := by decide +kernel
set_option maxRecDepth 100000 in
theorem cross3 : crossB c3 = true := by decide +kernel
set_option maxRecDepth 100000 in
theorem cross5 : crossB c5 = true := by decide +kernel
set_option maxRecDepth 100000 in
theorem cross7 : crossB c7 = true := by decide +kernel
theorem wd_z {a : I} (h : (a.hi.z - a.lo.z) * 9007199254740992 ≤ 200 * (S : Int)) : wd a ≤ 200 * ulp := by
  have h1 := Rat.intCast_le_intCast.2 h
  rw [Rat.intCast_mul, Rat.intCast_mul, Rat.intCast_sub, Rat.intCast_natCast, ← F.q_mul, ← F.q_mul] at h1
  have e1 : ((9007199254740992 : Int) : Rat) = 9007199254740992 := rfl
  have e2 : ((200 : Int) : Rat) = 200 := rfl
  rw [e1, e2] at h1
  have hS := S_gt
  unfold wd ulp
  refine Rat.le_of_mul_le_mul_right (c := (S : Rat)) ?_ hS
  grind
theorem cross_two {x c : F} (h : crossB c = true) (hx : x.k = c.k - 1) : Two (atR x) (atR c) := by
  have e : x = F.of (c.k - 1) := by rw [← hx, F.of_self]
  subst e
  unfold crossB at h
  rw [Bool.and_eq_true] at h
  exact ⟨wd_z (of_decide_eq_true h.1), wd_z (of_decide_eq_true h.2)⟩
theorem atR_two {x y : F} (b1 : 0 ≤ x.q) (b2 : y.q ≤ 1) (hk : x.k ≤ y.k ∧ y.k ≤ x.k + 1) (hd : y.q - x.q ≤ 2 * ulp) : Two (atR x) (atR y) := by
  obtain ⟨k1, k3, k5, k7, g1, g2, g3, g0⟩ := consts
  have hxy := q_le.2 hk.1
  have lt : ∀ {z c : F}, decide (z.k < c.k) = true → z.q < c.q := fun h => q_lt.2 (of_decide_eq_true h)
  have ge : ∀ {z c : F}, decide (z.k < c.k) = false → c.q ≤ z.q := fun h => q_le.2 (by have := of_decide_eq_false h; omega)
  have cr : ∀ {c : F}, crossB c = true → decide (x.k < c.k) = true → decide (y.k < c.k) = false → Two (atR x) (atR y) := by
    intro c hc h1 h2
    have h1 := of_decide_eq_true h1
    have h2 := of_decide_eq_false h2
    have : y = c := F.ext' (by omega)
    subst this
    exact cross_two hc (by omega)
  have no : ∀ {c : F}, decide (x.k < c.k) = false → decide (y.k < c.k) = true → False := by
    intro c h1 h2
    have h1 := of_decide_eq_false h1
    have h2 := of_decide_eq_true h2
    omega
  cases h5 : decide (x.k < c5.k) <;> cases i5 : decide (y.k < c5.k)
  · have p5 := ge h5; have r5 := ge i5
    cases h7 : decide (x.k < c7.k) <;> cases i7 : decide (y.k < c7.k)
    · have p7 := ge h7; have r7 := ge i7
      unfold atR atM
      simp only [h5, i5, h7, i7, cond_false]
      refine atP_two ?_ ?_ b1 (by grind) ?_ ?_ (by grind) b2 ?_ ?_ hxy hd _ <;> (rw [one_q]; grind)
    · exact (no h7 i7).elim
    · exact cr cross7 h7 i7
    · have p7 := lt h7; have r7 := lt i7
      unfold atR atM
      simp only [h5, i5, h7, i7, cond_false, cond_true]
      refine atP_two ?_ ?_ b1 (by grind) ?_ ?_ (by grind) b2 ?_ ?_ hxy hd _ <;> grind
  · exact (no h5 i5).elim
  · exact cr cross5 h5 i5
  · have p5 := lt h5; have r5 := lt i5
    cases h3 : decide (x.k < c3.k) <;> cases i3 : decide (y.k < c3.k)
    · have p3 := ge h3; have r3 := ge i3
      unfold atR atM
      simp only [h5, i5, h3, i3, cond_false, cond_true]
      refine atP_two ?_ ?_ b1 (by grind) ?_ ?_ (by grind) b2 ?_ ?_ hxy hd _ <;> grind
    · exact (no h3 i3).elim
    · exact cr cross3 h3 i3
    · have p3 := lt h3; have r3 := lt i3
      cases h1 : decide (x.k < c1.k) <;> cases i1 : decide (y.k < c1.k)
      · have p1 := ge h1; have r1 := ge i1
        unfold atR atM
        simp only [h5, i5, h3, i3, h1, i1, cond_false, cond_true]
        refine atP_two ?_ ?_ b1 (by grind) ?_ ?_ (by grind) b2 ?_ ?_ hxy hd _ <;> grind
      · exact (no h1 i1).elim
      · exact cr cross1 h1 i1
      · have p1 := lt h1; have r1 := lt i1
        unfold atR atM
        simp only [h5, i5, h3, i3, h1, i1, cond_true]
        refine atP_two ?_ ?_ b1 (by grind) ?_ ?_ (by grind) b2 ?_ ?_ hxy hd _ <;> grind
set_option maxRecDepth 100000 in
theorem quart1 : decide ((atR q1).1.hi.k = one64.k) = true := by decide +kernel
set_option maxRecDepth 100000 in
theorem quart3 : decide ((atR q3).1.lo.k = mone64.k) = true := by decide +kernel
set_option maxRecDepth 100000 in
theorem quart2 : decide ((atR q2).2.lo.k = mone64.k) = true := by decide +kernel
theorem hull_top {h p : I} (h1 : h.lo.q ≤ p.lo.q) (h2 : p.hi.q ≤ h.hi.q) : Sub (hullI h p) h := by
  constructor
  · show h.lo.q ≤ (mnF h.lo p.lo).q; rcases mnF_or h.lo p.lo with e | e <;> rw [e] <;> grind
  · show (mxF h.hi p.hi).q ≤ h.hi.q; rcases mxF_or h.hi p.hi with e | e <;> rw [e] <;> grind
theorem Sub.trans {a b c : I} (h : Sub a b) (k : Sub b c) : Sub a c := ⟨Rat.le_trans k.lo h.lo, Rat.le_trans h.hi k.hi⟩
theorem Sub.refl (a : I) : Sub a a := ⟨Rat.le_refl, Rat.le_refl⟩
theorem has_adj {a b q : F} (hk : b.k ≤ a.k + 1) (h : hasB ⟨a, b⟩ q = true) : q = a ∨ q = b := by
  unfold hasB at h
  simp only [Bool.and_eq_true, decide_eq_true_iff] at h
  have := h.1.2; have := h.2
  rcases (show q.k = a.k ∨ q.k = b.k by omega) with e | e
  · exact .inl (F.ext' e)
  · exact .inr (F.ext' e)
theorem sc_adj {a b : F} (b1 : 0 ≤ a.q) (b2 : b.q ≤ 1) (hk : a.k ≤ b.k ∧ b.k ≤ a.k + 1) (hd : b.q - a.q ≤ 2 * ulp) : wd (sinM atR a b) ≤ 200 * ulp ∧ wd (cosM atR a b) ≤ 200 * ulp := by
  have hT := atR_two b1 b2 hk hd
  have ia := atR_in a; have ib := atR_in b
  have q1h := of_decide_eq_true quart1; have q3h := of_decide_eq_true quart3; have q2h := of_decide_eq_true quart2
  have mn := fun x y => mnF_q x y
  have mx := fun x y => mxF_q x y
  have sub1 : Sub (topM (hasB ⟨a, b⟩ q1) (hullI (atR a).1 (atR b).1) oneI64) (hullI (atR a).1 (atR b).1) := by
    cases h : hasB ⟨a, b⟩ q1
    · exact Sub.refl _
    · refine hull_top ?_ ?_
      · exact Rat.le_trans (mn _ _).1 (q_le.2 (show (atR a).1.lo.k ≤ one64.k by have := ia.1.rt; have := ia.1.hi; omega))
      · rcases has_adj hk.2 h with e | e
        · exact Rat.le_trans (q_le.2 (show one64.k ≤ (atR a).1.hi.k by rw [← e, q1h]; omega)) (mx _ _).1
        · exact Rat.le_trans (q_le.2 (show one64.k ≤ (atR b).1.hi.k by rw [← e, q1h]; omega)) (mx _ _).2
  have sub3 : Sub (sinM atR a b) (hullI (atR a).1 (atR b).1) := by
    refine Sub.trans ?_ sub1
    show Sub (topM (hasB ⟨a, b⟩ q3) (topM (hasB ⟨a, b⟩ q1) (hullI (atR a).1 (atR b).1) oneI64) moneI) _
    cases h : hasB ⟨a, b⟩ q3
    · exact Sub.refl _
    · have t1 := @top_lo (hasB ⟨a, b⟩ q1) (hullI (atR a).1 (atR b).1) oneI64
      have t2 := @top_hi (hasB ⟨a, b⟩ q1) (hullI (atR a).1 (atR b).1) oneI64
      refine hull_top ?_ ?_
      · refine Rat.le_trans (q_le.2 t1) ?_
        rcases has_adj hk.2 h with e | e
        · exact Rat.le_trans (mn _ _).1 (q_le.2 (show (atR a).1.lo.k ≤ mone64.k by rw [← e, q3h]; omega))
        · exact Rat.le_trans (mn _ _).2 (q_le.2 (show (atR b).1.lo.k ≤ mone64.k by rw [← e, q3h]; omega))
      · refine Rat.le_trans ?_ (q_le.2 t2)
        exact Rat.le_trans (q_le.2 (show mone64.k ≤ (atR a).1.hi.k by have := ia.1.rt; have := ia.1.lo; omega)) (mx _ _).1
  have sub2 : Sub (cosM atR a b) (hullI (atR a).2 (atR b).2) := by
    show Sub (topM (hasB ⟨a, b⟩ q2) (hullI (atR a).2 (atR b).2) moneI) _
    cases h : hasB ⟨a, b⟩ q2
    · exact Sub.refl _
    · refine hull_top ?_ ?_
      · rcases has_adj hk.2 h with e | e
        · exact Rat.le_trans (mn _ _).1 (q_le.2 (show (atR a).2.lo.k ≤ mone64.k by rw [← e, q2h]; omega))
        · exact Rat.le_trans (mn _ _).2 (q_le.2 (show (atR b).2.lo.k ≤ mone64.k by rw [← e, q2h]; omega))
      · exact Rat.le_trans (q_le.2 (show mone64.k ≤ (atR a).2.hi.k by have := ia.2.rt; have := ia.2.lo; omega)) (mx _ _).1
  exact ⟨Rat.le_trans sub3.wd hT.s, Rat.le_trans sub2.wd hT.c⟩
end Bu
