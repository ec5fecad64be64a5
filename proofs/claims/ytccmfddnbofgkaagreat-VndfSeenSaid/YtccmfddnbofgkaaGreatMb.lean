/- Grains of what goes into a draw: draws, directions, sines. -/
import Derived.Test.YtccmfddnbofgkaaGreatMa
import Derived.Test.YtccmfddnbofgkaaGreatIm
namespace Bu
set_option linter.all false
open Rx Go

/-! rows of an angle are not small -/
theorem loop_ge {Y : I} (hY : Y.hi.q ≤ 5 / 8) (hY0 : U01 Y) : ∀ (l : List F) (p : I), l ≠ [] → (∀ d ∈ l, 2 ≤ d.q) → U01 p →
    ∃ r, loopM KTR Y ⟨one64, one64⟩ l (p, 0) = (r, 0) ∧ 1 / 32 ≤ r.lo.q ∧ r.lo.q ≤ r.hi.q
  | [], _, h, _, _ => absurd rfl h
  | [d], p, _, hl, hp => by
    have hd := hl d (by simp)
    obtain ⟨r1, e1, u1, m1, w1⟩ := step_ok hY hY0 hp hd
    refine ⟨r1, e1, ?_, u1.rt⟩
    have y0 := hY0.lo; have y1 := hY0.rt
    have p0 := hp.lo; have p1 := hp.rt; have p2 := hp.hi
    have mm := (m1 Y.lo.q p.lo.q ⟨Rat.le_refl, y1⟩ ⟨Rat.le_refl, p1⟩).hi
    have q0 := div_nn (x := Y.lo.q) (d := d.q) (by grind) y0
    have q2 : ∀ {z : Rat}, z ≤ 5 / 8 → z / d.q ≤ 5 / 16 := by
      intro z hz
      have h1 := div_mono (d := d.q) (by grind) hz
      have h2 : 5 / 8 / d.q * d.q = 5 / 8 := Rat.div_mul_cancel (by grind)
      have h3 := Rat.mul_nonneg (div_nn (x := 5 / 8) (d := d.q) (by grind) (by grind)) (show 0 ≤ d.q - 2 by grind)
      grind
    have a1 := q2 (z := Y.lo.q) (by grind)
    have a2 := q2 (z := wd Y) (by unfold wd; grind)
    have a3 := q2 (z := 5 / 8) Rat.le_refl
    have hu := ulp_pos
    have hu1 : ulp ≤ 1 / 1048576 := by unfold ulp; grind
    have b1 := Rat.mul_nonneg q0 (show 0 ≤ 1 - p.lo.q by grind)
    have b2 := Rat.mul_nonneg (show 0 ≤ 5 / 16 + ulp - (5 / 8 / d.q + ulp) by grind) (show 0 ≤ wd p by unfold wd; grind)
    have b3 := Rat.mul_nonneg (show 0 ≤ 5 / 16 + ulp by grind) (show 0 ≤ 1 - wd p by unfold wd; grind)
    have w2 : wd r1 = r1.hi.q - r1.lo.q := rfl
    generalize wd Y / d.q = t1 at *
    generalize Y.lo.q / d.q = t2 at *
    generalize 5 / 8 / d.q = t3 at *
    generalize wd p = t4 at *
    grind
  | d :: e :: l, p, _, hl, hp => by
    obtain ⟨r1, e1, u1, m1, w1⟩ := step_ok hY hY0 hp (hl d (by simp))
    obtain ⟨r, e2, g1, g2⟩ := loop_ge hY hY0 (e :: l) r1 (by simp) (fun d hd => hl d (by simp [hd])) u1
    refine ⟨r, ?_, g1, g2⟩
    show loopM KTR Y ⟨one64, one64⟩ (e :: l) (stepM KTR Y ⟨one64, one64⟩ d (p, 0)) = _
    rw [e1, e2]
theorem row_ge {t : I} (ht : Ang t) {D : F} {l : List F} (hD : 300 ≤ D.q) (hl : ∀ d ∈ l, 2 ≤ d.q) (hne : l ≠ []) :
    ∃ r, rowM KTR D l 0 t = (r, 0) ∧ 1 / 32 ≤ r.lo.q ∧ r.lo.q ≤ r.hi.q := by
  have hu := ulp_pos
  have hu1 : ulp ≤ 1 / 1048576 := by unfold ulp; grind
  have t1 := ht.lo; have t2 := ht.rt; have t3 := ht.hi
  obtain ⟨b1, b2, b3, b4, b5, b6⟩ := bare_ok ht.sm
  have b7 := b6 (101 / 128) (by grind) (by grind)
  obtain ⟨Y, e1, y1, y2⟩ := cSqr_ok ht.sm
  generalize (bareI t).lo.q = u at *
  generalize (bareI t).hi.q = v at *
  have v1 := Rat.mul_nonneg (show 0 ≤ v by grind) (show 0 ≤ 101 / 128 - v by grind)
  have v2 := Rat.mul_nonneg b1 (show 0 ≤ v - u by grind)
  have v3 := Rat.mul_nonneg b1 b1
  have v4 := Rat.mul_nonneg (show 0 ≤ v by grind) (show 0 ≤ v - u by grind)
  have Y0 : 0 ≤ Y.lo.q := by rw [← q_zero]; exact y1.top F.zero (by rw [q_zero]; exact v3)
  have Yr : Y.lo.q ≤ Y.hi.q := by have := y1.le; have := y2.ge; grind
  have Yh : Y.hi.q ≤ 5 / 8 := by
    obtain ⟨c, hc⟩ := grid 5 (by omega) 3 (by omega) (by omega)
    have hc' : c.q = 5 / 8 := by
      have e8 : ((2 ^ 3 : Nat) : Rat) = 8 := rfl
      have e5 : ((5 : Int) : Rat) = 5 := rfl
      rw [e8, e5] at hc; grind
    rw [← hc']; exact y2.bot c (by rw [hc']; grind)
  have YU : U01 Y := ⟨Y0, Yr, by grind⟩
  have hD1 : 1 ≤ D.q := by grind
  obtain ⟨b, e2, hb⟩ := cDiv_ok YU.sm hD1
  have l0 := div_nn hD1 Y0
  have l1 := div_mono hD1 Yr
  have l2 : Y.hi.q / D.q ≤ 5 / 8 / D.q := div_mono hD1 Yh
  have l3 : 5 / 8 / D.q ≤ 1 / 480 := by
    have h1 : 5 / 8 / D.q * D.q = 5 / 8 := Rat.div_mul_cancel (by grind)
    have h2 := Rat.mul_nonneg (div_nn (x := 5 / 8) hD1 (by grind)) (show 0 ≤ D.q - 300 by grind)
    grind
  have c0 : 0 ≤ b.lo.q := by rw [← q_zero]; exact hb.top (by rw [q_zero]; exact l0) (by rw [q_zero]; exact l0) (by rw [q_zero]; grind) (by rw [q_zero]; grind)
  have c1 : b.lo.q ≤ b.hi.q := Rat.le_trans hb.lo.1 hb.hi.1
  have c2 : b.hi.q ≤ Y.hi.q / D.q + ulp := hb.near_hi l1 l1 Rat.le_refl Rat.le_refl (by grind)
  have bU : U01 b := ⟨c0, c1, by grind⟩
  have oU : U01 ⟨one64, one64⟩ := ⟨by show 0 ≤ one64.q; rw [one_q]; grind, Rat.le_refl, by show one64.q ≤ 1; rw [one_q]; exact Rat.le_refl⟩
  obtain ⟨s, e3, h1, h2⟩ := cSub_ok oU.sm bU.sm
  simp only [one_q] at h1 h2
  have s0 : 0 ≤ s.lo.q := by rw [← q_zero]; exact h1.top F.zero (by rw [q_zero]; grind)
  have s2 := h1.le
  have pU : U01 ⟨s.lo, one64⟩ := ⟨s0, by show _ ≤ one64.q; rw [one_q]; grind, by show one64.q ≤ 1; rw [one_q]; exact Rat.le_refl⟩
  obtain ⟨r, e4, r1, r2⟩ := loop_ge Yh YU l ⟨s.lo, one64⟩ hne hl pU
  refine ⟨r, ?_, r1, r2⟩
  have f0 : KTR.sqr 0 t = (Y, 0) := e1
  have f1 : KTR.num 0 one64 = (⟨one64, one64⟩, 0) := cNum_ok one64
  have f2 : KTR.num 0 D = (⟨D, D⟩, 0) := cNum_ok D
  have f3 : byM KTR Y D 0 = (b, 0) := by unfold byM; rw [f2]; exact e2
  have f4 : KTR.sub 0 ⟨one64, one64⟩ b = (s, 0) := e3
  unfold rowM
  rw [f0]
  simp only [f1]
  unfold rowA
  rw [f3]
  simp only [f4]
  exact e4
theorem gr_big {v : Rat} {M : Nat} (w : Rat) (h : w ≤ v) (k : 1 ≤ w * pw M) : Gr M v := by
  right; left
  have := Rat.mul_nonneg (show 0 ≤ v - w by grind) (Rat.le_of_lt (pw_pos M))
  grind
theorem pw_5 : pw 5 = 32 := by unfold pw; rfl
theorem pw_2 : pw 2 = 4 := by unfold pw; rfl
theorem pw_7 : pw 7 = 128 := by unfold pw; rfl
theorem pw_6 : pw 6 = 64 := by unfold pw; rfl
/-- an interval's ends -/
structure GI (M : Nat) (a : I) : Prop where
  lo : Gr M a.lo.q
  hi : Gr M a.hi.q
theorem GI.mono {M N : Nat} {a : I} (h : GI M a) (k : M ≤ N) : GI N a := ⟨h.lo.mono k, h.hi.mono k⟩
theorem turn_GI {M : Nat} {a : I} (h : GI M a) : GI M (turnI a) := ⟨by show Gr M a.hi.neg.q; rw [q_neg]; exact h.hi.neg, by show Gr M a.lo.neg.q; rw [q_neg]; exact h.lo.neg⟩
theorem mx_Gr {M : Nat} {x y : F} (a : Gr M x.q) (b : Gr M y.q) : Gr M (mxF x y).q := by rcases mxF_or x y with e | e <;> rw [e] <;> assumption
theorem mn_Gr {M : Nat} {x y : F} (a : Gr M x.q) (b : Gr M y.q) : Gr M (mnF x y).q := by rcases mnF_or x y with e | e <;> rw [e] <;> assumption
theorem one_Gr {M : Nat} : Gr M one64.q := by rw [one_q]; exact Gr.one.mono (Nat.zero_le _)
theorem mone_Gr {M : Nat} : Gr M mone64.q := by rw [mone_q]; exact Gr.one.neg.mono (Nat.zero_le _)
theorem with_GI {M : Nat} {a : I} (h : GI M a) : GI M (withI a) := by
  unfold withI
  cases decide ((mnF a.hi one64).k < (mxF a.lo mone64).k)
  · exact ⟨mx_Gr h.lo mone_Gr, mn_Gr h.hi one_Gr⟩
  · exact ⟨by show Gr M F.zero.q; rw [q_zero]; exact Gr.zero, by show Gr M F.zero.q; rw [q_zero]; exact Gr.zero⟩
theorem hull_GI {M : Nat} {a b : I} (h : GI M a) (k : GI M b) : GI M (hullI a b) := ⟨mn_Gr h.lo k.lo, mx_Gr h.hi k.hi⟩
theorem all_GI {M : Nat} {r : I} {p q s t : Rat} (d : AllR r p q s t) (hM : M ≤ 1074) (h1 : Gr M p) (h2 : Gr M q) (h3 : Gr M s) (h4 : Gr M t) : GI M r := by
  constructor
  · rcases d.loE with e | e | e | e
    · exact e.gr h1 hM
    · exact e.gr h2 hM
    · exact e.gr h3 hM
    · exact e.gr h4 hM
  · rcases d.hiE with e | e | e | e
    · exact e.gr h1 hM
    · exact e.gr h2 hM
    · exact e.gr h3 hM
    · exact e.gr h4 hM
theorem gr_sub {x y : F} {M : Nat} (hx : Gr M x.q) (hy : Gr M y.q) (hM : M + 52 ≤ 1074) : Gr (M + 52) (x.q - y.q) := by
  have := gr_add (x := x) (y := y.neg) hx (by rw [q_neg]; exact hy.neg) (by rw [Nat.max_self]; exact hM)
  rw [Nat.max_self, q_neg] at this
  rwa [show x.q + -y.q = x.q - y.q by grind] at this
theorem tau_GI : GI 0 TAU := ⟨gr_big 1 (by rw [tau_lo]; grind) (by rw [pw_zero]; grind), gr_big 1 (by rw [tau_hi]; grind) (by rw [pw_zero]; grind)⟩
theorem atT_gr {q x : F} {t : I} (e : atT KTR q x = (t, 0)) (gx : Gr 64 x.q) (gq : Gr 64 q.q) : GI 116 t := by
  have f1 : KTR.add 0 ⟨pi64, (KTR.nx pi64 true).1⟩ ⟨pi64, (KTR.nx pi64 true).1⟩ = (TAU, 0) := tau_eq
  have f2 : KTR.num 0 x = (⟨x, x⟩, 0) := cNum_ok x
  have f3 : KTR.num 0 q = (⟨q, q⟩, 0) := cNum_ok q
  unfold atT at e
  simp only [f1, f2, f3] at e
  have m0 : (cMul dMul (KTR.sub 0 ⟨x, x⟩ ⟨q, q⟩).2 TAU (KTR.sub 0 ⟨x, x⟩ ⟨q, q⟩).1).2 = 0 := congrArg Prod.snd e
  obtain ⟨z1, _, _, e2, d⟩ := mul_0 m0
  have e3 : (cMul dMul (KTR.sub 0 ⟨x, x⟩ ⟨q, q⟩).2 TAU (KTR.sub 0 ⟨x, x⟩ ⟨q, q⟩).1).1 = t := congrArg Prod.fst e
  rw [e3] at d
  have z2 : (cSub dSub 0 ⟨x, x⟩ ⟨q, q⟩).2 = 0 := z1
  obtain ⟨_, _, _, _, d1, d2⟩ := sub_0 z2
  have g := gr_sub gx gq (by decide)
  have dl : Gr 116 (KTR.sub 0 ⟨x, x⟩ ⟨q, q⟩).1.lo.q := d1.gr g (by decide)
  have dh : Gr 116 (KTR.sub 0 ⟨x, x⟩ ⟨q, q⟩).1.hi.q := d2.gr g (by decide)
  have T := tau_GI
  have k : ∀ {a b : Rat}, Gr 0 a → Gr 116 b → Gr 116 (a * b) := fun h k => by have := h.mul k; rwa [show 0 + 116 = 116 from rfl] at this
  exact all_GI d (by decide) (k T.lo dl) (k T.lo dh) (k T.hi dl) (k T.hi dh)
theorem atSC_gr {q x : F} (h1 : -(1 / 8) ≤ x.q - q.q) (h2 : x.q - q.q ≤ 1 / 8) (b1 : 0 ≤ x.q) (b2 : x.q ≤ 1) (b3 : 0 ≤ q.q) (b4 : q.q ≤ 1) (gx : Gr 64 x.q) (gq : Gr 64 q.q) :
    ∃ S C, atS KTR KRR q x = (S, 0) ∧ atC KTR KRR q x = (C, 0) ∧ GI 121 S ∧ GI 121 C := by
  obtain ⟨t, e1, ht, wt, mt⟩ := atT_ok h1 h2 b1 b2 b3 b4
  have gt := atT_gr e1 gx gq
  obtain ⟨r, e2, r0, r1⟩ := row_ge ht (D := toF 4646096334330265600) (by rw [sl_q.2]; grind) sl_2 (by simp)
  obtain ⟨c, e3, c0, c1⟩ := row_ge ht (D := toF 4645392646888488960) (by rw [cl_q.2]; grind) cl_2 (by simp)
  obtain ⟨S, C, a1, a2, _, _, _, _, _⟩ := atSC_ok h1 h2 b1 b2 b3 b4
  refine ⟨S, C, a1, a2, ?_, ?_⟩
  · have f1 : KRR.r20 0 t = (r, 0) := by show row20 KTR 0 t = _; unfold row20; exact e2
    unfold atS at a1
    simp only [e1, f1] at a1
    have m0 : (cMul dMul 0 t r).2 = 0 := congrArg Prod.snd a1
    obtain ⟨_, _, _, _, d⟩ := mul_0 m0
    have e3 : (cMul dMul 0 t r).1 = S := congrArg Prod.fst a1
    rw [e3] at d
    have rg : ∀ {v : Rat}, 1 / 32 ≤ v → Gr 5 v := fun h => gr_big (1 / 32) h (by rw [pw_5]; grind)
    have k : ∀ {a b : Rat}, Gr 116 a → Gr 5 b → Gr 121 (a * b) := fun h k => by have := h.mul k; rwa [show 116 + 5 = 121 from rfl] at this
    have rl := rg r0
    have rh := rg (show 1 / 32 ≤ r.hi.q by grind)
    exact all_GI d (by decide) (k gt.lo rl) (k gt.lo rh) (k gt.hi rl) (k gt.hi rh)
  · have f1 : KRR.r19 0 t = (c, 0) := by show row19 KTR 0 t = _; unfold row19; exact e3
    unfold atC at a2
    simp only [e1, a1, f1] at a2
    have e : c = C := congrArg Prod.fst a2
    subst e
    exact ⟨gr_big (1 / 32) c0 (by have := pw_mono (show 5 ≤ 121 by decide); rw [pw_5] at this; grind), gr_big (1 / 32) (show 1 / 32 ≤ c.hi.q by grind) (by have := pw_mono (show 5 ≤ 121 by decide); rw [pw_5] at this; grind)⟩
def G2 (p : I × I) : Prop := GI 121 p.1 ∧ GI 121 p.2
theorem atP_gr {q x : F} (h1 : -(1 / 8) ≤ x.q - q.q) (h2 : x.q - q.q ≤ 1 / 8) (b1 : 0 ≤ x.q) (b2 : x.q ≤ 1) (b3 : 0 ≤ q.q) (b4 : q.q ≤ 1) (gx : Gr 64 x.q) (gq : Gr 64 q.q) (j : Nat) : G2 (atP KTR KRR withI j q x) := by
  obtain ⟨S, C, e1, e2, gs, gc⟩ := atSC_gr h1 h2 b1 b2 b3 b4 gx gq
  obtain ⟨S', C', e1', e2', hs, hc, _, _, _⟩ := atSC_ok h1 h2 b1 b2 b3 b4
  have es : S' = S := by rw [e1] at e1'; exact (congrArg Prod.fst e1').symm
  have ec : C' = C := by rw [e2] at e2'; exact (congrArg Prod.fst e2').symm
  subst es; subst ec
  have f1 : KTR.neg 0 S' = (turnI S', 0) := cNeg_ok hs.rt
  have f2 : KTR.neg 0 C' = (turnI C', 0) := cNeg_ok hc.rt
  unfold atP
  simp only [e1, e2, f1, f2]
  split
  · exact ⟨with_GI gs, with_GI gc⟩
  · exact ⟨with_GI gc, with_GI (turn_GI gs)⟩
  · exact ⟨with_GI (turn_GI gs), with_GI (turn_GI gc)⟩
  · exact ⟨with_GI (turn_GI gc), with_GI gs⟩
theorem quarter_gr {q : F} {n : Int} (h : q.q * 4 = (n : Rat)) : Gr 64 q.q := (gr_int (K := 2) (n := n) (by rw [pw_2]; exact h)).mono (by decide)
theorem atR_gr {x : F} (b1 : 0 ≤ x.q) (b2 : x.q ≤ 1) (gx : Gr 64 x.q) : G2 (atR x) := by
  obtain ⟨k1, k3, k5, k7, g1, g2, g3, g0⟩ := consts
  have r1 : Gr 64 q1.q := quarter_gr (n := 1) g1
  have r2 : Gr 64 q2.q := quarter_gr (n := 2) g2
  have r3 : Gr 64 q3.q := quarter_gr (n := 3) g3
  have r0 : Gr 64 (toF 0).q := by rw [g0]; exact Gr.zero
  have r4 : Gr 64 one64.q := one_Gr
  have lt : ∀ c : F, decide (x.k < c.k) = true → x.q < c.q := fun c h => q_lt.2 (of_decide_eq_true h)
  have ge : ∀ c : F, decide (x.k < c.k) = false → c.q ≤ x.q := fun c h => q_le.2 (by have := of_decide_eq_false h; omega)
  unfold atR atM
  cases h5 : decide (x.k < c5.k)
  · have := ge _ h5
    cases h7 : decide (x.k < c7.k)
    · have := ge _ h7
      simp only [cond_false]
      refine atP_gr ?_ ?_ b1 b2 ?_ ?_ gx r4 _ <;> (rw [one_q]; grind)
    · have := lt _ h7
      simp only [cond_false, cond_true]
      refine atP_gr ?_ ?_ b1 b2 ?_ ?_ gx r3 _ <;> grind
  · have := lt _ h5
    cases h3 : decide (x.k < c3.k)
    · have := ge _ h3
      simp only [cond_false, cond_true]
      refine atP_gr ?_ ?_ b1 b2 ?_ ?_ gx r2 _ <;> grind
    · have := lt _ h3
      cases h1 : decide (x.k < c1.k)
      · have := ge _ h1
        simp only [cond_false, cond_true]
        refine atP_gr ?_ ?_ b1 b2 ?_ ?_ gx r1 _ <;> grind
      · have := lt _ h1
        simp only [cond_true]
        refine atP_gr ?_ ?_ b1 b2 ?_ ?_ gx r0 _ <;> grind
theorem sc_gr {a b : F} (a1 : 0 ≤ a.q) (a2 : a.q ≤ 1) (b1 : 0 ≤ b.q) (b2 : b.q ≤ 1) (ga : Gr 64 a.q) (gb : Gr 64 b.q) : GI 121 (sinM atR a b) ∧ GI 121 (cosM atR a b) := by
  obtain ⟨s1, c1⟩ := atR_gr a1 a2 ga
  obtain ⟨s2, c2⟩ := atR_gr b1 b2 gb
  have o : GI 121 oneI64 := ⟨one_Gr, one_Gr⟩
  have m : GI 121 moneI := ⟨mone_Gr, mone_Gr⟩
  have top : ∀ {h : Bool} {x y : I}, GI 121 x → GI 121 y → GI 121 (topM h x y) := by
    intro h x y hx hy
    unfold topM
    cases h
    · exact hx
    · exact hull_GI hx hy
  unfold sinM cosM sinT cosT
  exact ⟨top (top (hull_GI s1 s2) o) m, top (hull_GI c1 c2) m⟩
theorem z_gr {x : F} {m : Nat} (h : x.z = ((m * Q64 : Nat) : Int)) : Gr 64 x.q := by
  refine gr_int (n := (m : Int)) ?_
  have hz := F.q_mul x
  rw [h, pw_S, show (1074 : Nat) = 64 + 1010 from rfl, pw_add, Int.natCast_mul, Rat.intCast_mul] at hz
  have e : ((Q64 : Nat) : Int) = ((2 ^ 1010 : Nat) : Int) := by rw [Q64_eq]
  have e2 : (((Q64 : Nat) : Int) : Rat) = pw 1010 := by
    rw [e, Rat.intCast_natCast]; unfold pw; rfl
  rw [e2] at hz
  have p := pw_pos 1010
  generalize pw 1010 = w at *
  generalize ((m : Int) : Rat) = k at *
  have : (x.q * pw 64 - k) * w = 0 := by grind
  rcases Rat.mul_eq_zero.1 this with g | g <;> grind
theorem unI_gr (n : Int) (h0 : 0 ≤ n) (h1 : n ≤ 18446744073709551615) : GI 64 (unI n) := by
  have hn : n.toNat < 18446744073709551616 := by omega
  have a := z_gr (unitLo_z n.toNat hn)
  refine ⟨a, ?_⟩
  show Gr 64 (unitOf n.toNat).hi.q
  unfold unitOf
  simp only
  split
  · exact a
  · next c => exact z_gr (unitHi_z n.toNat hn c)
/-! directions by numbers -/
theorem Nr.gr {r : F} {v : Rat} {M : Nat} (h : Nr r v) (g : Gr M v) (hM : M ≤ 1074) : Gr M r.q := by
  obtain ⟨c, hc⟩ := pw_F hM
  have p := pw_pos M
  unfold Gr at *
  rcases g with g | g | g
  · left
    have := h.up F.zero (by rw [q_zero, g]; exact Rat.le_refl)
    have := h.dn F.zero (by rw [q_zero, g]; exact Rat.le_refl)
    rw [q_zero] at *
    grind
  · right; left
    have cv : c.q ≤ v := by
      apply Rat.not_lt.1
      intro k
      have := Rat.mul_pos (show 0 < c.q - v by grind) p
      grind
    have := h.dn c cv
    have := Rat.mul_nonneg (show 0 ≤ r.q - c.q by grind) (Rat.le_of_lt p)
    grind
  · right; right
    have cv : v ≤ c.neg.q := by
      rw [q_neg]
      apply Rat.not_lt.1
      intro k
      have := Rat.mul_pos (show 0 < v + c.q by grind) p
      grind
    have := h.up c.neg cv
    rw [q_neg] at this
    have := Rat.mul_nonneg (show 0 ≤ -c.q - r.q by grind) (Rat.le_of_lt p)
    grind
theorem bwX_nr {a b : F} {n : Int} (hp : pairB a b = true) (h : wN32 n = true) : ∃ p : F, 0 ≤ p.q ∧ Nr (bwX a b n) (a.q + p.q) := by
  unfold pairB at hp
  simp only [Bool.and_eq_true, decide_eq_true_iff] at hp
  obtain ⟨⟨⟨⟨⟨⟨p1, p2⟩, p3⟩, p4⟩, p5⟩, p6⟩, p7⟩ := hp
  obtain ⟨t, e1, t0, t1, hr⟩ := frT_ok h
  obtain ⟨o1, o2⟩ := so_ok e1
  have eT : frT n = t := o2
  have p2' : 0 < (sf (fsu b a)).k := p2
  have hm : ∃ p : F, fmu (sf (fsu b a)) t = some p.b ∧ 0 ≤ p.k ∧ p.k ≤ (sf (fsu b a)).k := by
    by_cases ht : t.k = 0
    · have : t = F.zero := F.ext' ht
      subst this
      exact ⟨F.zero, p7, Int.le_refl _, by show (0 : Int) ≤ _; omega⟩
    · exact mul_le1 p2' (by omega) t1
  obtain ⟨p, e2, q0, q1⟩ := hm
  obtain ⟨o3, o4⟩ := so_ok e2
  have eP : bwP a b n = p := by unfold bwP; rw [eT]; exact o4
  have c := c16_q
  have a1 := q_le.2 p6; have a2 := q_le.2 p5; have a3 := q_le.2 (Int.le_trans q1 p4)
  have a4 : 0 ≤ p.q := by rw [← q_zero]; exact q_le.2 q0
  rw [q_neg] at a2
  obtain ⟨g, hg⟩ := big_ex
  obtain ⟨D, e3, nr⟩ := add_nr (x := a) (y := p) (g := g) (by grind) (by grind)
  obtain ⟨_, o6⟩ := so_ok (show fad a p = some D.b from e3)
  refine ⟨p, a4, ?_⟩
  have : bwX a b n = D := by unfold bwX; rw [eP]; exact o6
  rw [this]; exact nr
theorem bw_gr {n : Int} (h : wN32 n = true) : Gr 53 (bwF mone64 one64 n).q := by
  obtain ⟨p, p0, nr⟩ := bwX_nr (aw13_p).1 h
  have g : Gr 53 (bwX mone64 one64 n).q := by
    rcases (Rat.le_total : 1 / 2 ≤ p.q ∨ p.q ≤ 1 / 2) with c | c
    · have gp : Gr 1 p.q := gr_big (1 / 2) c (by rw [pw_one]; grind)
      have := gr_add (x := mone64) (y := p) (mone_Gr (M := 1)) gp (by decide)
      exact nr.gr this (by decide)
    · have m := mone_q
      have g1 : Gr 1 (mone64.q + p.q) := by
        have := gr_big (v := -(mone64.q + p.q)) (M := 1) (1 / 2) (by rw [m]; grind) (by rw [pw_one]; grind)
        have := this.neg
        rwa [show - -(mone64.q + p.q) = mone64.q + p.q by grind] at this
      exact (nr.gr g1 (by decide)).mono (by decide)
  unfold bwF
  cases decide ((bwX mone64 one64 n).k < mone64.k)
  · cases decide (one64.k < (bwX mone64 one64 n).k)
    · exact g
    · exact one_Gr
  · exact mone_Gr
/-- the direction's line, behind its numbers -/
def unR : List Bu.Op := (unP F.zero F.zero F.zero).drop 3
def unG : List (Nat × Option Nat) := grRun unR [(6, some 0), (53, some 0), (53, some 0)]
theorem unG_ok : unG.getD 4 g0 = (55, some 0) ∧ unG.getD 2 g0 = (55, some 0) := by decide +kernel
theorem env_G : ∀ {g : List (Nat × Option Nat)} {v : List I}, (∀ p ∈ g.zip v, GrI p.1 p.2) → g.length = v.length → ∀ i, GrI (g.getD i g0) (gt v i)
  | [], [], _, _, i => ⟨by show EQ g0 F.zero.q; rw [q_zero]; exact eq_zero, by show EQ g0 F.zero.q; rw [q_zero]; exact eq_zero⟩
  | a :: g, b :: v, h, hl, 0 => h (a, b) (by simp)
  | a :: g, b :: v, h, hl, i + 1 => env_G (g := g) (v := v) (fun p hp => h p (by simp [hp])) (by simpa using hl) i
  | [], _ :: _, _, hl, _ => by cases hl
  | _ :: _, [], _, hl, _ => by cases hl
theorem in1_bd {a : I} (h : In1 a) : Bd 0 a.lo.q ∧ Bd 0 a.hi.q := ⟨bd0 h.lo (Int.le_trans h.rt h.hi), bd0 (Int.le_trans h.lo h.rt) h.hi⟩
theorem gr_in {M : Nat} {a : I} (g : GI M a) (h : In1 a) : GrI (M, some 0) a := ⟨⟨fun _ => g.lo, fun u hu => by injection hu with hu; subst hu; exact (in1_bd h).1⟩, ⟨fun _ => g.hi, fun u hu => by injection hu with hu; subst hu; exact (in1_bd h).2⟩⟩
theorem pt_gr {M : Nat} {x : F} (g : Gr M x.q) (h : N1 x) : GrI (M, some 0) (pt x) := gr_in ⟨g, g⟩ (pt_in h)
theorem un_gr {x y z : F} (hx : N1 x) (hy : N1 y) (z0 : 1 / 64 ≤ z.q) (z1 : z.q ≤ 1) (gx : Gr 53 x.q) (gy : Gr 53 y.q) : GrI (55, some 0) (unV KkR x y z).x ∧ GrI (55, some 0) (unV KkR x y z).y := by
  have h := (un_okE hx hy z0 z1).1
  have c := (eval_chain h).2
  unfold unV
  have c' : Chain (unP x y z) [] (unE KkR x y z).1 := c
  generalize (unE KkR x y z).1 = u at *
  obtain ⟨_, f1, _, f2, _, f3, c⟩ := c'
  rw [show _ = pt x from f1, show _ = pt y from f2, show _ = pt z from f3] at c
  have c : Chain unR [pt z, pt y, pt x] u := c
  have gz : Gr 6 z.q := gr_big (1 / 64) z0 (by rw [pw_6]; grind)
  have G := grRun_ok (env_G (g := [(6, some 0), (53, some 0), (53, some 0)]) (v := [pt z, pt y, pt x]) (by
    intro p hp
    simp only [List.zip_cons_cons, List.zip_nil_right, List.mem_cons, List.not_mem_nil, or_false] at hp
    rcases hp with rfl | rfl | rfl
    · exact pt_gr gz ⟨by grind, z1⟩
    · exact pt_gr gy hy
    · exact pt_gr gx hx) rfl) c
  have a := G 4
  have b := G 2
  have e1 : grRun unR [(6, some 0), (53, some 0), (53, some 0)] = unG := rfl
  rw [e1, unG_ok.1] at a
  rw [e1, unG_ok.2] at b
  exact ⟨a, b⟩
theorem oneV_gr {a b : Int} (c : Int) (ha : wN32 a = true) (hb : wN32 b = true) : GrI (55, some 0) (oneV WR a b c).x ∧ GrI (55, some 0) (oneV WR a b c).y := un_gr bw1 bw1 bw2.1 bw2.2 (bw_gr ha) (bw_gr hb)
theorem big_G {M : Nat} {a : I} (w : Rat) (h : w ≤ a.lo.q) (r : a.lo.q ≤ a.hi.q) (k : 1 ≤ w * pw M) (t : a.hi.q ≤ 1) (w0 : 0 ≤ w) : GrI (M, some 0) a := by
  refine ⟨⟨fun _ => gr_big w h k, fun u hu => ?_⟩, ⟨fun _ => gr_big w (by grind) k, fun u hu => ?_⟩⟩
  · injection hu with hu; subst hu
    unfold Bd; rw [pw_zero]; constructor <;> grind
  · injection hu with hu; subst hu
    unfold Bd; rw [pw_zero]; constructor <;> grind
/-! what a draw tells, and its cosine -/
def drG0 : List (Nat × Option Nat) := [(64, some 0), (121, some 0), (121, some 0), (5, some 0), (7, some 0), (55, some 0), (55, some 0)]
def drGA : List (Nat × Option Nat) := grRun drA drG0
def drGB : List (Nat × Option Nat) := grRun drB drG0
def nG (g : List (Nat × Option Nat)) (i : Nat) : Bool := decide ((g.getD i g0).1 ≤ 820 ∧ (g.getD i g0).2 = some 0)
theorem drG_ok : (nG drGA 2 && nG drGA 1 && nG drGA 0 && nG drGB 2 && nG drGB 1 && nG drGB 0) = true := by decide +kernel
def vsG0 : List (Nat × Option Nat) := [(7, some 0), (55, some 0), (55, some 0), (820, some 0), (820, some 0), (820, some 0)]
theorem vsG_ok : decide (((grRun vsP vsG0).getD 0 g0).1 ≤ 1000) = true := by decide +kernel
end Bu
