/- Sine and cosine of all parts of a turn: by polynomials of a great degree, and two pi to 1200 places. Sine and cosine of all parts of a turn: enclosed, and by their course. Sine and cosine of an interval: what is told of it holds of each of its numbers. Sine and cosine, turned by the half of a turn, and about it. -/
import Derived.Test.YtccmfddnbofgkaaGreatIg
namespace Bu
set_option linter.all false
open Rx Go

/-- 2 pi by 2^1200 -/
def Pn : Nat := 108186897132336501671189860107232812037024433449904255453032105652401399556415295650447645426109615791663852440790611725924098289051411293803597627783628992875781606797142447809002113722624038763429614362603269598492528372534912389940320599010908750142146048896834994846123892403256342974379471121410587286956157952799680419334352518886024445597522707822381433898
def P2 : Rat := (Pn : Rat) / ((2 ^ 1200 : Nat) : Rat)
def dsL : Nat → List Rat
  | 0 => []
  | n + 1 => (((2 * n + 2) * (2 * n + 3) : Nat) : Rat) :: dsL n
def dcL : Nat → List Rat
  | 0 => []
  | n + 1 => (((2 * n + 1) * (2 * n + 2) : Nat) : Rat) :: dcL n
/-- sine by its angle, cosine; of the angle's square -/
def hs (y : Rat) : Rat := nestR y (dsL 150) 1
def hc (y : Rat) : Rat := nestR y (dcL 150) 1
theorem nest_app (y : Rat) : ∀ (a b : List Rat) (p : Rat), nestR y (a ++ b) p = nestR y b (nestR y a p)
  | [], _, _ => rfl
  | d :: a, b, p => nest_app y a b _
/-- within 0 and 1 -/
theorem nest_01 {y : Rat} (h0 : 0 ≤ y) (h1 : y ≤ 1) : ∀ {l : List Rat} {p : Rat}, (∀ d ∈ l, 2 ≤ d) → 0 ≤ p → p ≤ 1 → 0 ≤ nestR y l p ∧ nestR y l p ≤ 1
  | [], p, _, p0, p1 => ⟨p0, p1⟩
  | d :: l, p, hl, p0, p1 => by
    have hd := hl d (by simp)
    have k0 := div_nn (x := y) (d := d) (by grind) h0
    have k1 := div_mono (d := d) (by grind) h1
    have k2 : 1 / d ≤ 1 := by
      refine Rat.le_of_mul_le_mul_right (c := d) ?_ (by grind)
      rw [Rat.div_mul_cancel (by grind)]; grind
    have k3 := Rat.mul_nonneg k0 p0
    have k4 := Rat.mul_nonneg k0 (show 0 ≤ 1 - p by grind)
    show 0 ≤ nestR y l (1 - y / d * p) ∧ nestR y l (1 - y / d * p) ≤ 1
    exact nest_01 (l := l) (p := 1 - y / d * p) h0 h1 (fun d hd => hl d (by simp [hd])) (by grind) (by grind)
theorem dsL_2 : ∀ n : Nat, ∀ d ∈ dsL n, (6 : Rat) ≤ d
  | 0, d, h => by simp [dsL] at h
  | n + 1, d, h => by
    simp only [dsL, List.mem_cons] at h
    rcases h with rfl | h
    · have : (6 : Nat) ≤ (2 * n + 2) * (2 * n + 3) := Nat.mul_le_mul (show 2 ≤ 2 * n + 2 by omega) (show 3 ≤ 2 * n + 3 by omega)
      have := Rat.natCast_le_natCast.2 this
      exact this
    · exact dsL_2 n d h
theorem dcL_2 : ∀ n : Nat, ∀ d ∈ dcL n, (2 : Rat) ≤ d
  | 0, d, h => by simp [dcL] at h
  | n + 1, d, h => by
    simp only [dcL, List.mem_cons] at h
    rcases h with rfl | h
    · have : (2 : Nat) ≤ (2 * n + 1) * (2 * n + 2) := Nat.mul_le_mul (show 1 ≤ 2 * n + 1 by omega) (show 2 ≤ 2 * n + 2 by omega)
      have := Rat.natCast_le_natCast.2 this
      exact this
    · exact dcL_2 n d h
/-- a row at a value between two others -/
theorem nest_conv (y : Rat) : ∀ (l : List Rat) (p q t : Rat), nestR y l ((1 - t) * p + t * q) = (1 - t) * nestR y l p + t * nestR y l q
  | [], p, q, t => rfl
  | d :: l, p, q, t => by
    unfold nestR
    rw [← nest_conv y l]
    congr 1
    generalize y / d = z
    grind
theorem mem_conv {a : I} {p q t : Rat} (h0 : 0 ≤ t) (h1 : t ≤ 1) (hp : Mem a p) (hq : Mem a q) : Mem a ((1 - t) * p + t * q) := by
  have a1 := hp.lo; have a2 := hp.hi; have b1 := hq.lo; have b2 := hq.hi
  have k1 := Rat.mul_nonneg (show 0 ≤ 1 - t by grind) (show 0 ≤ p - a.lo.q by grind)
  have k2 := Rat.mul_nonneg h0 (show 0 ≤ q - a.lo.q by grind)
  have k3 := Rat.mul_nonneg (show 0 ≤ 1 - t by grind) (show 0 ≤ a.hi.q - p by grind)
  have k4 := Rat.mul_nonneg h0 (show 0 ≤ a.hi.q - q by grind)
  exact ⟨by grind, by grind⟩
theorem hs_tail (y : Rat) : hs y = nestR y slQ (1 - y / 420 * nestR y ((dsL 150).take 140) 1) := by
  have e : dsL 150 = (dsL 150).take 140 ++ (420 :: slQ) := by decide +kernel
  unfold hs
  conv => lhs; rw [e]
  rw [nest_app]; rfl
theorem hc_tail (y : Rat) : hc y = nestR y clQ (1 - y / 380 * nestR y ((dcL 150).take 140) 1) := by
  have e : dcL 150 = (dcL 150).take 140 ++ (380 :: clQ) := by decide +kernel
  unfold hc
  conv => lhs; rw [e]
  rw [nest_app]; rfl
theorem hs_01 {y : Rat} (h0 : 0 ≤ y) (h1 : y ≤ 1) : 0 ≤ hs y ∧ hs y ≤ 1 := nest_01 h0 h1 (fun d hd => by have := dsL_2 150 d hd; grind) (by grind) (by grind)
theorem hc_01 {y : Rat} (h0 : 0 ≤ y) (h1 : y ≤ 1) : 0 ≤ hc y ∧ hc y ≤ 1 := nest_01 h0 h1 (dcL_2 150) (by grind) (by grind)
/-- what an angle's row encloses, encloses these -/
theorem AtE.deep {S C : I} {z : Rat} (h : AtE S C z) : Mem S (z * hs (z * z)) ∧ Mem C (hc (z * z)) := by
  have h0 := sq_nn z
  have h1 : z * z ≤ 1 := by have := sq_bd h.lo h.hi; grind
  have ts := nest_01 (p := 1) h0 h1 (l := (dsL 150).take 140) (fun d hd => by have := dsL_2 150 d (List.mem_of_mem_take hd); grind) (by grind) (by grind)
  have tc := nest_01 (p := 1) h0 h1 (l := (dcL 150).take 140) (fun d hd => dcL_2 150 d (List.mem_of_mem_take hd)) (by grind) (by grind)
  rw [hs_tail, hc_tail]
  generalize nestR (z * z) ((dsL 150).take 140) 1 = t at *
  generalize nestR (z * z) ((dcL 150).take 140) 1 = u at *
  constructor
  · have e : 1 - z * z / 420 * t = (1 - t) * 1 + t * (1 - z * z / 420) := by grind
    rw [e, nest_conv]
    have := mem_conv ts.1 ts.2 h.s1 h.s2
    have e2 : z * ((1 - t) * nestR (z * z) slQ 1 + t * nestR (z * z) slQ (1 - z * z / 420)) = (1 - t) * (z * nestR (z * z) slQ 1) + t * (z * nestR (z * z) slQ (1 - z * z / 420)) := by grind
    rw [e2]; exact this
  · have e : 1 - z * z / 380 * u = (1 - u) * 1 + u * (1 - z * z / 380) := by grind
    rw [e, nest_conv]
    exact mem_conv tc.1 tc.2 h.c1 h.c2
theorem P2_mem : Mem TAU P2 := by
  have h1 : decide (7074237752028440 / 1125899906842624 ≤ P2 ∧ P2 ≤ 7074237752028441 / 1125899906842624) = true := by decide +kernel
  obtain ⟨a, b⟩ := of_decide_eq_true h1
  exact ⟨by rw [tau_lo]; exact a, by rw [tau_hi]; exact b⟩
/-! rising and falling -/
structure Two1 (a b p q : Rat) : Prop where
  le : q ≤ p
  one : p ≤ 1
  lo : 7 / 8 ≤ q
  lip : p - q ≤ (b - a) / 6
theorem nest_two {a b : Rat} (h0 : 0 ≤ a) (hab : a ≤ b) (hb : b ≤ 5 / 8) : ∀ (l : List Rat) (p q : Rat), (∀ d ∈ l, 6 ≤ d) → Two1 a b p q → Two1 a b (nestR a l p) (nestR b l q)
  | [], p, q, _, h => h
  | d :: l, p, q, hl, h => by
    show Two1 a b (nestR a l (1 - a / d * p)) (nestR b l (1 - b / d * q))
    refine nest_two h0 hab hb l _ _ (fun d hd => hl d (by simp [hd])) ?_
    have hd := hl d (by simp)
    have g1 := h.le; have g2 := h.one; have g3 := h.lo; have g4 := h.lip
    have hd0 : (0 : Rat) < d := by grind
    have hi : 0 < 1 / d := by rw [Rat.div_def, Rat.one_mul]; exact Rat.inv_pos.2 hd0
    have e1 : 1 / d * d = 1 := Rat.div_mul_cancel (by grind)
    have ea : a / d = a * (1 / d) := by rw [Rat.div_def, Rat.div_def, Rat.one_mul]
    have eb : b / d = b * (1 / d) := by rw [Rat.div_def, Rat.div_def, Rat.one_mul]
    rw [ea, eb]
    generalize 1 / d = w at *
    have w6 : w * 6 ≤ 1 := by have := Rat.mul_nonneg (Rat.le_of_lt hi) (show 0 ≤ d - 6 by grind); grind
    -- b q - a p
    have k1 := Rat.mul_nonneg (show 0 ≤ b - a by grind) (show 0 ≤ q - 7 / 8 by grind)
    have k2 := Rat.mul_nonneg h0 (show 0 ≤ (b - a) / 6 - (p - q) by grind)
    have k3 := Rat.mul_nonneg h0 (show 0 ≤ p - q by grind)
    have k4 := Rat.mul_nonneg (show 0 ≤ b - a by grind) (show 0 ≤ 5 / 8 - a by grind)
    have k5 := Rat.mul_nonneg (show 0 ≤ b - a by grind) (show 0 ≤ 1 - q by grind)
    have k6 := Rat.mul_nonneg (show 0 ≤ b by grind) (show 0 ≤ 1 - q by grind)
    have k7 := Rat.mul_nonneg h0 (show 0 ≤ p by grind)
    have D0 : 0 ≤ b * q - a * p := by grind
    have D1 : b * q - a * p ≤ b - a := by grind
    have m1 := Rat.mul_nonneg (Rat.le_of_lt hi) D0
    have m2 := Rat.mul_nonneg (Rat.le_of_lt hi) (show 0 ≤ b - a - (b * q - a * p) by grind)
    have m3 := Rat.mul_nonneg (show 0 ≤ 1 - w * 6 by grind) (show 0 ≤ b - a by grind)
    have m4 := Rat.mul_nonneg (Rat.le_of_lt hi) k7
    have m5 := Rat.mul_nonneg (Rat.le_of_lt hi) (show 0 ≤ 5 / 8 - b * q by grind)
    refine ⟨by grind, by grind, by grind, by grind⟩
theorem hs_two {a b : Rat} (h0 : 0 ≤ a) (hab : a ≤ b) (hb : b ≤ 5 / 8) : Two1 a b (hs a) (hs b) :=
  nest_two h0 hab hb _ 1 1 (dsL_2 150) ⟨Rat.le_refl, Rat.le_refl, by grind, by grind⟩
def gc (y : Rat) : Rat := nestR y ((dcL 150).take 149) 1
theorem hc_gc (y : Rat) : hc y = 1 - y / 2 * gc y := by
  have e : dcL 150 = (dcL 150).take 149 ++ [2] := by decide +kernel
  unfold hc gc
  conv => lhs; rw [e]
  rw [nest_app]; rfl
theorem dc149 : ∀ d ∈ (dcL 150).take 149, (6 : Rat) ≤ d := by
  have h : ((dcL 150).take 149).all (fun d => decide ((6 : Rat) ≤ d)) = true := by decide +kernel
  intro d hd
  exact of_decide_eq_true (List.all_eq_true.1 h d hd)
theorem hc_two {a b : Rat} (h0 : 0 ≤ a) (hab : a ≤ b) (hb : b ≤ 5 / 8) : hc b ≤ hc a := by
  have h : Two1 a b (gc a) (gc b) := nest_two h0 hab hb _ 1 1 dc149 ⟨Rat.le_refl, Rat.le_refl, by grind, by grind⟩
  have g1 := h.le; have g2 := h.one; have g3 := h.lo; have g4 := h.lip
  rw [hc_gc, hc_gc]
  have k1 := Rat.mul_nonneg (show 0 ≤ b - a by grind) (show 0 ≤ gc b - 7 / 8 by grind)
  have k2 := Rat.mul_nonneg h0 (show 0 ≤ (b - a) / 6 - (gc a - gc b) by grind)
  have k4 := Rat.mul_nonneg (show 0 ≤ b - a by grind) (show 0 ≤ 5 / 8 - a by grind)
  grind
def sQ (z : Rat) : Rat := z * hs (z * z)
def cQ (z : Rat) : Rat := hc (z * z)
structure An (z : Rat) : Prop where
  lo : -(101 / 128) ≤ z
  hi : z ≤ 101 / 128
theorem An.sq {z : Rat} (h : An z) : 0 ≤ z * z ∧ z * z ≤ 5 / 8 := ⟨sq_nn z, by have := sq_bd h.lo h.hi; grind⟩
theorem sQ_neg (z : Rat) : sQ (-z) = -(sQ z) := by unfold sQ; rw [show -z * -z = z * z by grind]; grind
theorem cQ_neg (z : Rat) : cQ (-z) = cQ z := by unfold cQ; rw [show -z * -z = z * z by grind]
theorem sQ_nn {z : Rat} (h : An z) (h0 : 0 ≤ z) : 0 ≤ sQ z ∧ sQ z ≤ 1 := by
  have hz := h.sq
  have := hs_01 hz.1 (by grind)
  have a := Rat.mul_nonneg h0 this.1
  have b := Rat.mul_nonneg h0 (show 0 ≤ 1 - hs (z * z) by grind)
  have := h.hi
  unfold sQ
  constructor <;> grind
theorem sQ_pos {z w : Rat} (h0 : 0 ≤ z) (hzw : z ≤ w) (hw : An w) : sQ z ≤ sQ w := by
  have w1 := hw.hi
  have hz : An z := ⟨by grind, by grind⟩
  have kz := sq_bd (x := z) (m := w) (by grind) hzw
  have t := hs_two hz.sq.1 kz hw.sq.2
  have g1 := t.le; have g2 := t.one; have g3 := t.lo; have g4 := t.lip
  unfold sQ
  generalize hs (z * z) = p at *
  generalize hs (w * w) = q at *
  have k1 := Rat.mul_nonneg (show 0 ≤ w - z by grind) (show 0 ≤ q - 7 / 8 by grind)
  have k2 := Rat.mul_nonneg h0 (show 0 ≤ (w * w - z * z) / 6 - (p - q) by grind)
  have k3 := Rat.mul_nonneg h0 (show 0 ≤ 101 / 128 - z by grind)
  have k4 := Rat.mul_nonneg h0 (show 0 ≤ 101 / 128 - w by grind)
  have k5 := Rat.mul_nonneg (show 0 ≤ w - z by grind) (show 0 ≤ 7 / 8 - z * (w + z) / 6 by grind)
  grind
theorem sQ_mono {z w : Rat} (hz : An z) (hzw : z ≤ w) (hw : An w) : sQ z ≤ sQ w := by
  rcases (Rat.le_total : 0 ≤ z ∨ z ≤ 0) with h | h
  · exact sQ_pos h hzw hw
  · rcases (Rat.le_total : 0 ≤ w ∨ w ≤ 0) with g | g
    · have a := (sQ_nn (z := -z) ⟨by have := hz.hi; grind, by have := hz.lo; grind⟩ (by grind)).1
      have b := (sQ_nn hw g).1
      rw [sQ_neg] at a
      grind
    · have := sQ_pos (z := -w) (w := -z) (by grind) (by grind) ⟨by have := hz.hi; grind, by have := hz.lo; grind⟩
      rw [sQ_neg, sQ_neg] at this
      grind
theorem cQ_anti {z w : Rat} (h1 : -w ≤ z) (h2 : z ≤ w) (hw : An w) : cQ w ≤ cQ z := by
  unfold cQ
  exact hc_two (sq_nn z) (sq_bd h1 h2) hw.sq.2
theorem cQ_01 {z : Rat} (h : An z) : 0 ≤ cQ z ∧ cQ z ≤ 1 := hc_01 h.sq.1 (by have := h.sq.2; grind)
/-- at an eighth both are the same, but for next to nothing -/
def eps : Rat := 1 / ((2 ^ 1150 : Nat) : Rat)
set_option maxRecDepth 100000 in
theorem eighth : decide (sQ (P2 / 8) ≤ cQ (P2 / 8) + eps ∧ cQ (P2 / 8) ≤ sQ (P2 / 8) + eps) = true := by decide +kernel
end Bu
namespace Bu
set_option linter.all false
open Rx Go

def SN (x : Rat) : Rat := if x < 5 / 8 then (if x < 3 / 8 then (if x < 1 / 8 then sQ (P2 * (x - 0)) else cQ (P2 * (x - 1 / 4))) else -sQ (P2 * (x - 1 / 2))) else (if x < 7 / 8 then -cQ (P2 * (x - 3 / 4)) else sQ (P2 * (x - 1)))
def CN (x : Rat) : Rat := if x < 5 / 8 then (if x < 3 / 8 then (if x < 1 / 8 then cQ (P2 * (x - 0)) else -sQ (P2 * (x - 1 / 4))) else -cQ (P2 * (x - 1 / 2))) else (if x < 7 / 8 then sQ (P2 * (x - 3 / 4)) else cQ (P2 * (x - 1)))
theorem P2_bd : 6 ≤ P2 ∧ P2 ≤ 101 / 16 := by
  have h : decide (6 ≤ P2 ∧ P2 ≤ 101 / 16) = true := by decide +kernel
  exact of_decide_eq_true h
theorem an_of {d : Rat} (h1 : -(1 / 8) ≤ d) (h2 : d ≤ 1 / 8) : An (P2 * d) := by
  obtain ⟨p1, p2⟩ := P2_bd
  generalize P2 = p at *
  have k1 := Rat.mul_nonneg (show 0 ≤ p by grind) (show 0 ≤ 1 / 8 - d by grind)
  have k2 := Rat.mul_nonneg (show 0 ≤ p by grind) (show 0 ≤ 1 / 8 + d by grind)
  exact ⟨by grind, by grind⟩
theorem sQ_1 {z : Rat} (h : An z) : -1 ≤ sQ z ∧ sQ z ≤ 1 := by
  rcases (Rat.le_total : 0 ≤ z ∨ z ≤ 0) with g | g
  · have := sQ_nn h g; constructor <;> grind
  · have := sQ_nn (z := -z) ⟨by have := h.hi; grind, by have := h.lo; grind⟩ (by grind)
    rw [sQ_neg] at this
    constructor <;> grind
theorem withI_keep {a : I} {v : Rat} (h : Mem a v) (h0 : -1 ≤ v) (h1 : v ≤ 1) : Mem (withI a) v := by
  obtain ⟨w, m, e⟩ := withI_mem h h0 h1 h
  rcases e with rfl | ⟨g, rfl⟩ | ⟨g, rfl⟩
  · exact m
  · rwa [show v = 1 by grind]
  · rwa [show v = -1 by grind]
structure Enc (p : I × I) (s c : Rat) : Prop where
  s : Mem p.1 s
  c : Mem p.2 c
theorem atP_enc {q x : F} {r : Rat} (hr : q.q = r) (h1 : -(1 / 8) ≤ x.q - r) (h2 : x.q - r ≤ 1 / 8) (b1 : 0 ≤ x.q) (b2 : x.q ≤ 1) (b3 : 0 ≤ r) (b4 : r ≤ 1) :
    Enc (atP KTR KRR withI 0 q x) (sQ (P2 * (x.q - r))) (cQ (P2 * (x.q - r))) ∧ Enc (atP KTR KRR withI 1 q x) (cQ (P2 * (x.q - r))) (-sQ (P2 * (x.q - r))) ∧
    Enc (atP KTR KRR withI 2 q x) (-sQ (P2 * (x.q - r))) (-cQ (P2 * (x.q - r))) ∧ Enc (atP KTR KRR withI 3 q x) (-cQ (P2 * (x.q - r))) (sQ (P2 * (x.q - r))) := by
  subst hr
  obtain ⟨S, C, e1, e2, hs, hc, _, _, hm⟩ := atSC_ok h1 h2 b1 b2 b3 b4
  have hz : AtE S C (P2 * (x.q - q.q)) := hm _ P2_mem
  have hd := hz.deep
  have ha : An (P2 * (x.q - q.q)) := an_of h1 h2
  have f1 : KTR.neg 0 S = (turnI S, 0) := cNeg_ok hs.rt
  have f2 : KTR.neg 0 C = (turnI C, 0) := cNeg_ok hc.rt
  have s1 := sQ_1 ha
  have c1 := cQ_01 ha
  have mS : Mem S (sQ (P2 * (x.q - q.q))) := hd.1
  have mC : Mem C (cQ (P2 * (x.q - q.q))) := hd.2
  generalize sQ (P2 * (x.q - q.q)) = s at *
  generalize cQ (P2 * (x.q - q.q)) = c at *
  have a1 := withI_keep mS s1.1 s1.2
  have a2 := withI_keep mC (by grind) c1.2
  have a3 := withI_keep (turn_mem mS) (by grind) (by grind)
  have a4 := withI_keep (turn_mem mC) (by grind) (by grind)
  unfold atP
  simp only [e1, e2, f1, f2]
  exact ⟨⟨a1, a2⟩, ⟨a2, a3⟩, ⟨a3, a4⟩, ⟨a4, a1⟩⟩
theorem atR_enc {x : F} (b1 : 0 ≤ x.q) (b2 : x.q ≤ 1) : Enc (atR x) (SN x.q) (CN x.q) := by
  obtain ⟨k1, k3, k5, k7, g1, g2, g3, g0⟩ := consts
  have lt : ∀ {c : F}, decide (x.k < c.k) = true → x.q < c.q := fun h => q_lt.2 (of_decide_eq_true h)
  have ge : ∀ {c : F}, decide (x.k < c.k) = false → c.q ≤ x.q := fun h => q_le.2 (by have := of_decide_eq_false h; omega)
  unfold atR atM
  cases h5 : decide (x.k < c5.k)
  · have p5 := ge h5
    cases h7 : decide (x.k < c7.k)
    · have p7 := ge h7
      have e : SN x.q = sQ (P2 * (x.q - 1)) ∧ CN x.q = cQ (P2 * (x.q - 1)) := by unfold SN CN; rw [if_neg (by grind), if_neg (by grind), if_neg (by grind), if_neg (by grind)]; exact ⟨rfl, rfl⟩
      rw [e.1, e.2]
      exact (atP_enc one_q (by grind) (by grind) b1 b2 (by grind) (by grind)).1
    · have p7 := lt h7
      have e : SN x.q = -cQ (P2 * (x.q - 3 / 4)) ∧ CN x.q = sQ (P2 * (x.q - 3 / 4)) := by unfold SN CN; rw [if_neg (by grind), if_pos (by grind), if_neg (by grind), if_pos (by grind)]; exact ⟨rfl, rfl⟩
      rw [e.1, e.2]
      exact (atP_enc (q := q3) (by grind) (by grind) (by grind) b1 b2 (by grind) (by grind)).2.2.2
  · have p5 := lt h5
    cases h3 : decide (x.k < c3.k)
    · have p3 := ge h3
      have e : SN x.q = -sQ (P2 * (x.q - 1 / 2)) ∧ CN x.q = -cQ (P2 * (x.q - 1 / 2)) := by unfold SN CN; rw [if_pos (by grind), if_neg (by grind), if_pos (by grind), if_neg (by grind)]; exact ⟨rfl, rfl⟩
      rw [e.1, e.2]
      exact (atP_enc (q := q2) (by grind) (by grind) (by grind) b1 b2 (by grind) (by grind)).2.2.1
    · have p3 := lt h3
      cases h1 : decide (x.k < c1.k)
      · have p1 := ge h1
        have e : SN x.q = cQ (P2 * (x.q - 1 / 4)) ∧ CN x.q = -sQ (P2 * (x.q - 1 / 4)) := by unfold SN CN; rw [if_pos (by grind), if_pos (by grind), if_neg (by grind), if_pos (by grind), if_pos (by grind), if_neg (by grind)]; exact ⟨rfl, rfl⟩
        rw [e.1, e.2]
        exact (atP_enc (q := q1) (by grind) (by grind) (by grind) b1 b2 (by grind) (by grind)).2.1
      · have p1 := lt h1
        have e : SN x.q = sQ (P2 * (x.q - 0)) ∧ CN x.q = cQ (P2 * (x.q - 0)) := by unfold SN CN; rw [if_pos (by grind), if_pos (by grind), if_pos (by grind), if_pos (by grind), if_pos (by grind), if_pos (by grind)]; exact ⟨rfl, rfl⟩
        rw [e.1, e.2]
        exact (atP_enc g0 (by grind) (by grind) b1 b2 (by grind) (by grind)).1
theorem eps_pos : 0 < eps := by
  have h : decide (0 < eps) = true := by decide +kernel
  exact of_decide_eq_true h
theorem eighth2 : sQ (P2 * (1 / 8)) ≤ cQ (P2 * (1 / 8)) + eps ∧ cQ (P2 * (1 / 8)) ≤ sQ (P2 * (1 / 8)) + eps := by
  have h := of_decide_eq_true eighth
  rw [show P2 * (1 / 8) = P2 / 8 from by grind]
  exact h
theorem sQ_d {d e : Rat} (h1 : -(1 / 8) ≤ d) (h : d ≤ e) (h2 : e ≤ 1 / 8) : sQ (P2 * d) ≤ sQ (P2 * e) := by
  refine sQ_mono (an_of h1 (by grind)) ?_ (an_of (by grind) h2)
  have := Rat.mul_nonneg (show 0 ≤ P2 by have := P2_bd; grind) (show 0 ≤ e - d by grind)
  grind
theorem cQ_d {d e : Rat} (h1 : -e ≤ d) (h : d ≤ e) (h2 : e ≤ 1 / 8) : cQ (P2 * e) ≤ cQ (P2 * d) := by
  have p := (show 0 ≤ P2 by have := P2_bd; grind)
  refine cQ_anti ?_ ?_ (an_of (by grind) h2)
  · have := Rat.mul_nonneg p (show 0 ≤ d + e by grind); grind
  · have := Rat.mul_nonneg p (show 0 ≤ e - d by grind); grind
theorem cQ_e {d e : Rat} (h1 : -(1 / 8) ≤ e) (h : e ≤ d) (h2 : d ≤ 0) : cQ (P2 * e) ≤ cQ (P2 * d) := by
  have := cQ_d (d := -d) (e := -e) (by grind) (by grind) (by grind)
  rw [show P2 * -d = -(P2 * d) by grind, show P2 * -e = -(P2 * e) by grind, cQ_neg, cQ_neg] at this
  exact this
theorem sQ_m (d : Rat) : sQ (P2 * -d) = -sQ (P2 * d) := by rw [show P2 * -d = -(P2 * d) by grind, sQ_neg]
theorem SN_up1 {x y : Rat} (h0 : 0 ≤ x) (h : x ≤ y) (h1 : y ≤ 1 / 4) : SN x ≤ SN y + eps := by
  have he := eps_pos
  obtain ⟨a1, a2⟩ := eighth2
  unfold SN
  rw [if_pos (show x < 5 / 8 by grind), if_pos (show x < 3 / 8 by grind), if_pos (show y < 5 / 8 by grind), if_pos (show y < 3 / 8 by grind)]
  split <;> split
  · have := sQ_d (d := x - 0) (e := y - 0) (by grind) (by grind) (by grind); grind
  · have k1 := sQ_d (d := x - 0) (e := 1 / 8) (by grind) (by grind) (by grind)
    have k2 := cQ_d (d := y - 1 / 4) (e := 1 / 8) (by grind) (by grind) (by grind)
    grind
  · grind
  · have := cQ_e (d := y - 1 / 4) (e := x - 1 / 4) (by grind) (by grind) (by grind); grind
theorem SN_up2 {x y : Rat} (h0 : 3 / 4 ≤ x) (h : x ≤ y) (h1 : y ≤ 1) : SN x ≤ SN y + eps := by
  have he := eps_pos
  obtain ⟨a1, a2⟩ := eighth2
  unfold SN
  rw [if_neg (show ¬ x < 5 / 8 by grind), if_neg (show ¬ y < 5 / 8 by grind)]
  split <;> split
  · have := cQ_d (d := x - 3 / 4) (e := y - 3 / 4) (by grind) (by grind) (by grind); grind
  · have k1 := cQ_d (d := x - 3 / 4) (e := 1 / 8) (by grind) (by grind) (by grind)
    have k2 := sQ_d (d := -(1 / 8)) (e := y - 1) (by grind) (by grind) (by grind)
    rw [sQ_m] at k2
    grind
  · grind
  · have := sQ_d (d := x - 1) (e := y - 1) (by grind) (by grind) (by grind); grind
theorem SN_dn {x y : Rat} (h0 : 1 / 4 ≤ x) (h : x ≤ y) (h1 : y ≤ 3 / 4) : SN y ≤ SN x + 2 * eps := by
  have he := eps_pos
  obtain ⟨a1, a2⟩ := eighth2
  have m8 := sQ_m (1 / 8)
  unfold SN
  rw [if_neg (show ¬ x < 1 / 8 by grind), if_neg (show ¬ y < 1 / 8 by grind), if_pos (show x < 7 / 8 by grind), if_pos (show y < 7 / 8 by grind)]
  by_cases x5 : x < 5 / 8
  · by_cases y5 : y < 5 / 8
    · by_cases x3 : x < 3 / 8
      · by_cases y3 : y < 3 / 8
        · rw [if_pos x5, if_pos y5, if_pos x3, if_pos y3]
          have := cQ_d (d := x - 1 / 4) (e := y - 1 / 4) (by grind) (by grind) (by grind); grind
        · rw [if_pos x5, if_pos y5, if_pos x3, if_neg y3]
          have k1 := cQ_d (d := x - 1 / 4) (e := 1 / 8) (by grind) (by grind) (by grind)
          have k2 := sQ_d (d := -(1 / 8)) (e := y - 1 / 2) (by grind) (by grind) (by grind)
          grind
      · rw [if_pos x5, if_pos y5, if_neg x3, if_neg (show ¬ y < 3 / 8 by grind)]
        have := sQ_d (d := x - 1 / 2) (e := y - 1 / 2) (by grind) (by grind) (by grind); grind
    · by_cases x3 : x < 3 / 8
      · rw [if_pos x5, if_neg y5, if_pos x3]
        have k1 := cQ_d (d := x - 1 / 4) (e := 1 / 8) (by grind) (by grind) (by grind)
        have k2 := cQ_d (d := y - 3 / 4) (e := 1 / 8) (by grind) (by grind) (by grind)
        have p1 := (cQ_01 (an_of (d := 1 / 8) (by grind) (by grind))).1
        grind
      · rw [if_pos x5, if_neg y5, if_neg x3]
        have k1 := sQ_d (d := x - 1 / 2) (e := 1 / 8) (by grind) (by grind) (by grind)
        have k2 := cQ_d (d := y - 3 / 4) (e := 1 / 8) (by grind) (by grind) (by grind)
        grind
  · rw [if_neg x5, if_neg (show ¬ y < 5 / 8 by grind)]
    have := cQ_e (d := y - 3 / 4) (e := x - 3 / 4) (by grind) (by grind) (by grind); grind
end Bu
namespace Bu
set_option linter.all false
open Rx Go

theorem CN_eq1 {x : Rat} (h0 : 0 ≤ x) (h1 : x ≤ 3 / 4) : CN x = SN (x + 1 / 4) := by
  unfold CN SN
  by_cases a : x < 1 / 8
  · rw [if_pos (show x < 5 / 8 by grind), if_pos (show x < 3 / 8 by grind), if_pos a, if_pos (show x + 1 / 4 < 5 / 8 by grind), if_pos (show x + 1 / 4 < 3 / 8 by grind), if_neg (show ¬ x + 1 / 4 < 1 / 8 by grind)]
    congr 2; grind
  · by_cases b : x < 3 / 8
    · rw [if_pos (show x < 5 / 8 by grind), if_pos b, if_neg a, if_pos (show x + 1 / 4 < 5 / 8 by grind), if_neg (show ¬ x + 1 / 4 < 3 / 8 by grind)]
      congr 3; grind
    · by_cases c : x < 5 / 8
      · rw [if_pos c, if_neg b, if_neg (show ¬ x + 1 / 4 < 5 / 8 by grind), if_pos (show x + 1 / 4 < 7 / 8 by grind)]
        congr 3; grind
      · rw [if_neg c, if_pos (show x < 7 / 8 by grind), if_neg (show ¬ x + 1 / 4 < 5 / 8 by grind), if_neg (show ¬ x + 1 / 4 < 7 / 8 by grind)]
        congr 2; grind
theorem CN_eq2 {x : Rat} (h0 : 3 / 4 ≤ x) (h1 : x ≤ 1) : CN x = SN (x - 3 / 4) := by
  unfold CN SN
  rw [if_neg (show ¬ x < 5 / 8 by grind), if_pos (show x - 3 / 4 < 5 / 8 by grind), if_pos (show x - 3 / 4 < 3 / 8 by grind)]
  by_cases a : x < 7 / 8
  · rw [if_pos a, if_pos (show x - 3 / 4 < 1 / 8 by grind)]
    congr 2; grind
  · rw [if_neg a, if_neg (show ¬ x - 3 / 4 < 1 / 8 by grind)]
    congr 2; grind
theorem CN_dn {x y : Rat} (h0 : 0 ≤ x) (h : x ≤ y) (h1 : y ≤ 1 / 2) : CN y ≤ CN x + 2 * eps := by
  rw [CN_eq1 h0 (by grind), CN_eq1 (by grind) (by grind)]
  exact SN_dn (by grind) (by grind) (by grind)
theorem CN_up {x y : Rat} (h0 : 1 / 2 ≤ x) (h : x ≤ y) (h1 : y ≤ 1) : CN x ≤ CN y + 2 * eps := by
  have he := eps_pos
  rcases (Rat.le_total : y ≤ 3 / 4 ∨ 3 / 4 ≤ y) with a | a
  · rw [CN_eq1 (by grind) (by grind), CN_eq1 (by grind) a]
    have := SN_up2 (x := x + 1 / 4) (y := y + 1 / 4) (by grind) (by grind) (by grind)
    grind
  · rcases (Rat.le_total : x ≤ 3 / 4 ∨ 3 / 4 ≤ x) with b | b
    · have k1 := SN_up2 (x := x + 1 / 4) (y := 3 / 4 + 1 / 4) (by grind) (by grind) (by grind)
      have k2 := SN_up1 (x := 3 / 4 - 3 / 4) (y := y - 3 / 4) (by grind) (by grind) (by grind)
      rw [← CN_eq1 (by grind) b, ← CN_eq1 (by grind) (by grind)] at k1
      rw [← CN_eq2 (by grind) (by grind), ← CN_eq2 a h1] at k2
      grind
    · rw [CN_eq2 b (by grind), CN_eq2 a h1]
      have := SN_up1 (x := x - 3 / 4) (y := y - 3 / 4) (by grind) (by grind) (by grind)
      grind
theorem SN_1 {x : Rat} (h0 : 0 ≤ x) (h1 : x ≤ 1) : -1 ≤ SN x ∧ SN x ≤ 1 := by
  unfold SN
  split
  · split
    · split
      · exact sQ_1 (an_of (by grind) (by grind))
      · have := cQ_01 (an_of (d := x - 1 / 4) (by grind) (by grind)); constructor <;> grind
    · have := sQ_1 (an_of (d := x - 1 / 2) (by grind) (by grind)); constructor <;> grind
  · split
    · have := cQ_01 (an_of (d := x - 3 / 4) (by grind) (by grind)); constructor <;> grind
    · exact sQ_1 (an_of (by grind) (by grind))
theorem CN_1 {x : Rat} (h0 : 0 ≤ x) (h1 : x ≤ 1) : -1 ≤ CN x ∧ CN x ≤ 1 := by
  rcases (Rat.le_total : x ≤ 3 / 4 ∨ 3 / 4 ≤ x) with a | a
  · rw [CN_eq1 h0 a]; exact SN_1 (by grind) (by grind)
  · rw [CN_eq2 a h1]; exact SN_1 (by grind) (by grind)
theorem enc_M {a b : F} (h : inB a b = true) : (Mem (sinM atR a b) (SN a.q) ∧ Mem (sinM atR a b) (SN b.q)) ∧ Mem (cosM atR a b) (CN a.q) ∧ Mem (cosM atR a b) (CN b.q) := by
  obtain ⟨h1, h2, h3⟩ := inB_q h
  have ea := atR_enc h1 (by grind)
  have eb := atR_enc (x := b) (by grind) h3
  have r : ∀ {p q : I} {v : Rat}, Mem q v → Mem (hullI p q) v := fun hm => ⟨Rat.le_trans (mnF_q _ _).2 hm.lo, Rat.le_trans hm.hi (mxF_q _ _).2⟩
  exact ⟨⟨top_mem (top_mem (hull_mem ea.s)), top_mem (top_mem (r eb.s))⟩, top_mem (hull_mem ea.c), top_mem (r eb.c)⟩
theorem not_has {a b q : F} (hr : inB a b = true) (h : hasB ⟨a, b⟩ q = false) : b.q < q.q ∨ q.q < a.q := by
  unfold inB at hr
  rw [Bool.and_eq_true, Bool.and_eq_true] at hr
  unfold hasB at h
  rw [hr.1.1, Bool.true_and, Bool.and_eq_false_iff, decide_eq_false_iff_not, decide_eq_false_iff_not] at h
  rcases h with h | h
  · have h : ¬ a.k ≤ q.k := h
    right; exact q_lt.2 (by omega)
  · have h : ¬ q.k ≤ b.k := h
    left; exact q_lt.2 (by omega)
/-- each number's sine and cosine lie within, but for next to nothing -/
theorem part_bd {a b : F} (h : inB a b = true) {x : Rat} (hx : a.q ≤ x) (hy : x ≤ b.q) :
    ((sinM atR a b).lo.q ≤ SN x + 2 * eps ∧ SN x ≤ (sinM atR a b).hi.q + 2 * eps) ∧ (cosM atR a b).lo.q ≤ CN x + 2 * eps ∧ CN x ≤ (cosM atR a b).hi.q + 2 * eps := by
  have he := eps_pos
  obtain ⟨h1, h2, h3⟩ := inB_q h
  obtain ⟨⟨sa, sb⟩, ca, cb⟩ := enc_M h
  have a1 := sa.lo; have a2 := sa.hi; have b1 := sb.lo; have b2 := sb.hi
  have c1 := ca.lo; have c2 := ca.hi; have d1 := cb.lo; have d2 := cb.hi
  obtain ⟨_, _, _, _, g1, g2, g3, _⟩ := consts
  have s1 := SN_1 (x := x) (by grind) (by grind)
  have s2 := CN_1 (x := x) (by grind) (by grind)
  refine ⟨⟨?_, ?_⟩, ?_, ?_⟩
  · cases k : hasB ⟨a, b⟩ q3
    · rcases not_has h k with n | n
      · rcases (Rat.le_total : x ≤ 1 / 4 ∨ 1 / 4 ≤ x) with m | m
        · have := SN_up1 h1 hx m; grind
        · have := SN_dn m hy (by grind); grind
      · have := SN_up2 (x := a.q) (y := x) (by grind) hx (by grind); grind
    · have := q_le.2 (show (sinM atR a b).lo.k ≤ mone64.k by rw [sin_bot k]; omega)
      rw [mone_q] at this; grind
  · cases k : hasB ⟨a, b⟩ q1
    · rcases not_has h k with n | n
      · have := SN_up1 (x := x) (y := b.q) (by grind) hy (by grind); grind
      · rcases (Rat.le_total : x ≤ 3 / 4 ∨ 3 / 4 ≤ x) with m | m
        · have := SN_dn (x := a.q) (y := x) (by grind) hx m; grind
        · have := SN_up2 m hy h3; grind
    · have := q_le.2 (show one64.k ≤ (sinM atR a b).hi.k by rw [sin_top k]; omega)
      rw [one_q] at this; grind
  · cases k : hasB ⟨a, b⟩ q2
    · rcases not_has h k with n | n
      · have := CN_dn (x := x) (y := b.q) (by grind) hy (by grind); grind
      · have := CN_up (x := a.q) (y := x) (by grind) hx (by grind); grind
    · have := q_le.2 (show (cosM atR a b).lo.k ≤ mone64.k by rw [cos_bot k]; omega)
      rw [mone_q] at this; grind
  · rcases (Rat.le_total : x ≤ 1 / 2 ∨ 1 / 2 ≤ x) with m | m
    · have := CN_dn h1 hx m; grind
    · have := CN_up m hy h3; grind
set_option maxRecDepth 100000 in
theorem eps_S : 4 * eps * (S : Rat) < 1 := by
  have h : decide (4 * eps * (S : Rat) < 1) = true := by decide +kernel
  exact of_decide_eq_true h
/-- what is next to nothing is nothing, between numbers -/
theorem grid_sep {a b : F} (h : a.q ≤ b.q + 4 * eps) : a.k ≤ b.k := by
  have h1 := Rat.mul_nonneg (show 0 ≤ b.q + 4 * eps - a.q by grind) (Rat.le_of_lt S_gt)
  have e1 := F.q_mul a; have e2 := F.q_mul b
  have h2 := eps_S
  have h3 : ((a.z : Int) : Rat) < ((b.z + 1 : Int) : Rat) := by
    rw [Rat.intCast_add, ← e1, ← e2]
    have : ((1 : Int) : Rat) = 1 := rfl
    generalize (S : Rat) = s at *
    grind
  have := Rat.intCast_lt_intCast.1 h3
  exact F.z_le.1 (by omega)
end Bu
namespace Bu
set_option linter.all false
open Rx Go

theorem cQ_m (d : Rat) : cQ (P2 * -d) = cQ (P2 * d) := by rw [show P2 * -d = -(P2 * d) by grind, cQ_neg]
theorem SN_half {x : Rat} (h0 : 0 ≤ x) (h1 : x < 1 / 2) : SN (x + 1 / 2) = -SN x ∧ CN (x + 1 / 2) = -CN x := by
  unfold SN CN
  by_cases a : x < 1 / 8
  · rw [if_pos (show x < 5 / 8 by grind), if_pos (show x < 3 / 8 by grind), if_pos a, if_pos (show x + 1 / 2 < 5 / 8 by grind), if_neg (show ¬ x + 1 / 2 < 3 / 8 by grind)]
    rw [if_pos (show x < 5 / 8 by grind), if_pos (show x < 3 / 8 by grind), if_pos a, if_pos (show x + 1 / 2 < 5 / 8 by grind), if_neg (show ¬ x + 1 / 2 < 3 / 8 by grind)]
    rw [show x + 1 / 2 - 1 / 2 = x - 0 by grind]
    exact ⟨rfl, rfl⟩
  · by_cases b : x < 3 / 8
    · rw [if_pos (show x < 5 / 8 by grind), if_pos b, if_neg a, if_neg (show ¬ x + 1 / 2 < 5 / 8 by grind), if_pos (show x + 1 / 2 < 7 / 8 by grind)]
      rw [if_pos (show x < 5 / 8 by grind), if_pos b, if_neg a, if_neg (show ¬ x + 1 / 2 < 5 / 8 by grind), if_pos (show x + 1 / 2 < 7 / 8 by grind)]
      rw [show x + 1 / 2 - 3 / 4 = x - 1 / 4 by grind]
      exact ⟨rfl, by grind⟩
    · rw [if_pos (show x < 5 / 8 by grind), if_neg b, if_neg (show ¬ x + 1 / 2 < 5 / 8 by grind), if_neg (show ¬ x + 1 / 2 < 7 / 8 by grind)]
      rw [if_pos (show x < 5 / 8 by grind), if_neg b, if_neg (show ¬ x + 1 / 2 < 5 / 8 by grind), if_neg (show ¬ x + 1 / 2 < 7 / 8 by grind)]
      rw [show x + 1 / 2 - 1 = x - 1 / 2 by grind]
      exact ⟨by grind, by grind⟩
/-- near, but for next to nothing -/
structure Nx (a b : Rat) : Prop where
  le : a ≤ b + eps
  ge : b ≤ a + eps
theorem Nx.refl {a b : Rat} (h : a = b) : Nx a b := by have := eps_pos; subst h; exact ⟨by grind, by grind⟩
theorem SN_about {x : Rat} (h0 : 0 ≤ x) (h1 : x ≤ 1) : Nx (SN (1 - x)) (-SN x) ∧ Nx (CN (1 - x)) (CN x) := by
  have he := eps_pos
  obtain ⟨e1, e2⟩ := eighth2
  have s := fun d => sQ_m d
  have c := fun d => cQ_m d
  have s8 := s (1 / 8); have c8 := c (1 / 8)
  unfold SN CN
  by_cases a1 : x < 1 / 8
  · have q1 := s x; have q2 := c x
    rw [if_pos (show x < 5 / 8 by grind), if_pos (show x < 3 / 8 by grind), if_pos a1, if_pos (show x < 5 / 8 by grind), if_pos (show x < 3 / 8 by grind), if_pos a1,
      if_neg (show ¬ 1 - x < 5 / 8 by grind), if_neg (show ¬ 1 - x < 7 / 8 by grind), if_neg (show ¬ 1 - x < 5 / 8 by grind), if_neg (show ¬ 1 - x < 7 / 8 by grind), show 1 - x - 1 = -x by grind, show x - 0 = x by grind]
    exact ⟨.refl q1, .refl q2⟩
  · by_cases a3 : x < 3 / 8
    · by_cases b : x = 1 / 8
      · subst b
        rw [if_pos (show (1 / 8 : Rat) < 5 / 8 by grind), if_pos (show (1 / 8 : Rat) < 3 / 8 by grind), if_neg a1, if_pos (show (1 / 8 : Rat) < 5 / 8 by grind), if_pos (show (1 / 8 : Rat) < 3 / 8 by grind), if_neg a1,
          if_neg (show ¬ 1 - (1 / 8 : Rat) < 5 / 8 by grind), if_neg (show ¬ 1 - (1 / 8 : Rat) < 7 / 8 by grind), if_neg (show ¬ 1 - (1 / 8 : Rat) < 5 / 8 by grind), if_neg (show ¬ 1 - (1 / 8 : Rat) < 7 / 8 by grind),
          show 1 - (1 / 8 : Rat) - 1 = -(1 / 8) by grind, show (1 / 8 : Rat) - 1 / 4 = -(1 / 8) by grind]
        refine ⟨⟨?_, ?_⟩, ⟨?_, ?_⟩⟩ <;> grind
      · have q1 := s (x - 1 / 4); have q2 := c (x - 1 / 4)
        rw [if_pos (show x < 5 / 8 by grind), if_pos a3, if_neg a1, if_pos (show x < 5 / 8 by grind), if_pos a3, if_neg a1,
          if_neg (show ¬ 1 - x < 5 / 8 by grind), if_pos (show 1 - x < 7 / 8 by grind), if_neg (show ¬ 1 - x < 5 / 8 by grind), if_pos (show 1 - x < 7 / 8 by grind), show 1 - x - 3 / 4 = -(x - 1 / 4) by grind]
        exact ⟨.refl (by grind), .refl q1⟩
    · by_cases a5 : x < 5 / 8
      · by_cases b : x = 3 / 8
        · subst b
          rw [if_pos a5, if_neg a3, if_pos a5, if_neg a3, if_neg (show ¬ 1 - (3 / 8 : Rat) < 5 / 8 by grind), if_pos (show 1 - (3 / 8 : Rat) < 7 / 8 by grind), if_neg (show ¬ 1 - (3 / 8 : Rat) < 5 / 8 by grind), if_pos (show 1 - (3 / 8 : Rat) < 7 / 8 by grind),
            show 1 - (3 / 8 : Rat) - 3 / 4 = -(1 / 8) by grind, show (3 / 8 : Rat) - 1 / 2 = -(1 / 8) by grind]
          refine ⟨⟨?_, ?_⟩, ⟨?_, ?_⟩⟩ <;> grind
        · have q1 := s (x - 1 / 2); have q2 := c (x - 1 / 2)
          rw [if_pos a5, if_neg a3, if_pos a5, if_neg a3, if_pos (show 1 - x < 5 / 8 by grind), if_neg (show ¬ 1 - x < 3 / 8 by grind), if_pos (show 1 - x < 5 / 8 by grind), if_neg (show ¬ 1 - x < 3 / 8 by grind), show 1 - x - 1 / 2 = -(x - 1 / 2) by grind]
          exact ⟨.refl (by grind), .refl (by grind)⟩
      · by_cases a7 : x < 7 / 8
        · by_cases b : x = 5 / 8
          · subst b
            rw [if_neg a5, if_pos a7, if_neg a5, if_pos a7, if_pos (show 1 - (5 / 8 : Rat) < 5 / 8 by grind), if_neg (show ¬ 1 - (5 / 8 : Rat) < 3 / 8 by grind), if_pos (show 1 - (5 / 8 : Rat) < 5 / 8 by grind), if_neg (show ¬ 1 - (5 / 8 : Rat) < 3 / 8 by grind),
              show 1 - (5 / 8 : Rat) - 1 / 2 = -(1 / 8) by grind, show (5 / 8 : Rat) - 3 / 4 = -(1 / 8) by grind]
            refine ⟨⟨?_, ?_⟩, ⟨?_, ?_⟩⟩ <;> grind
          · have q1 := s (x - 3 / 4); have q2 := c (x - 3 / 4)
            rw [if_neg a5, if_pos a7, if_neg a5, if_pos a7, if_pos (show 1 - x < 5 / 8 by grind), if_pos (show 1 - x < 3 / 8 by grind), if_neg (show ¬ 1 - x < 1 / 8 by grind), if_pos (show 1 - x < 5 / 8 by grind), if_pos (show 1 - x < 3 / 8 by grind), if_neg (show ¬ 1 - x < 1 / 8 by grind), show 1 - x - 1 / 4 = -(x - 3 / 4) by grind]
            exact ⟨.refl (by grind), .refl (by grind)⟩
        · by_cases b : x = 7 / 8
          · subst b
            rw [if_neg a5, if_neg a7, if_neg a5, if_neg a7, if_pos (show 1 - (7 / 8 : Rat) < 5 / 8 by grind), if_pos (show 1 - (7 / 8 : Rat) < 3 / 8 by grind), if_neg (show ¬ 1 - (7 / 8 : Rat) < 1 / 8 by grind), if_pos (show 1 - (7 / 8 : Rat) < 5 / 8 by grind), if_pos (show 1 - (7 / 8 : Rat) < 3 / 8 by grind), if_neg (show ¬ 1 - (7 / 8 : Rat) < 1 / 8 by grind),
              show 1 - (7 / 8 : Rat) - 1 / 4 = -(1 / 8) by grind, show (7 / 8 : Rat) - 1 = -(1 / 8) by grind]
            refine ⟨⟨?_, ?_⟩, ⟨?_, ?_⟩⟩ <;> grind
          · have q1 := s (x - 1); have q2 := c (x - 1)
            rw [if_neg a5, if_neg a7, if_neg a5, if_neg a7, if_pos (show 1 - x < 5 / 8 by grind), if_pos (show 1 - x < 3 / 8 by grind), if_pos (show 1 - x < 1 / 8 by grind), if_pos (show 1 - x < 5 / 8 by grind), if_pos (show 1 - x < 3 / 8 by grind), if_pos (show 1 - x < 1 / 8 by grind), show 1 - x - 0 = -(x - 1) by grind]
            exact ⟨.refl (by grind), .refl (by grind)⟩
end Bu
