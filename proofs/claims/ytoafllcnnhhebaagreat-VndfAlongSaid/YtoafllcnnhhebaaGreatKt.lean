/- VndfAlong, plain: the law's own rows. -/
import Derived.Test.YtoafllcnnhhebaaGreatKs
namespace Bu
set_option linter.all false
open Rx Go

def E537 : Nat := 2 ^ 537
def PB : Rat := (E537 : Rat)
theorem E537_S : decide (S = E537 * E537 ∧ 0 < E537) = true := by decide +kernel
def hugeH : F := F.of ((1561 * 4503599627370496 : Nat) : Int)
set_option maxRecDepth 100000 in
theorem hugeH_z : decide (hugeH.z = ((2 * E537 * S : Nat) : Int)) = true := by decide +kernel
attribute [irreducible] E537 hugeH
theorem PB_pos : 0 < PB := by
  have h := Rat.natCast_lt_natCast.2 (of_decide_eq_true E537_S).2
  exact h
theorem hugeH_q : hugeH.q = 2 * PB := by
  have h := F.q_mul hugeH
  rw [of_decide_eq_true hugeH_z] at h
  have h2 : (((2 * E537 * S : Nat) : Int) : Rat) = 2 * PB * (S : Rat) := by
    unfold PB
    rw [Rat.intCast_natCast, Rat.natCast_mul, Rat.natCast_mul]; rfl
  rw [h2] at h
  have hs := S_gt
  generalize (S : Rat) = s at *
  generalize PB = m at *
  have e : (hugeH.q - 2 * m) * s = 0 := by grind
  rcases Rat.mul_eq_zero.1 e with e | e
  · grind
  · grind
theorem tiny_ex : ∃ c : F, c.q * PB = 1 := by
  obtain ⟨c, hc⟩ := grid 1 (by decide) 537 (by decide) (by decide)
  refine ⟨c, ?_⟩
  have e : PB = ((2 ^ 537 : Nat) : Rat) := by unfold PB E537; rfl
  rw [e]
  exact hc
theorem S_PB : (S : Rat) = PB * PB := by
  unfold PB
  rw [← Rat.natCast_mul, ← (of_decide_eq_true E537_S).1]
/-- what is above 0 is not below the smallest number -/
theorem least {x : F} (h : 0 < x.q) : 1 ≤ x.q * (PB * PB) := by
  rw [← S_PB, F.q_mul]
  have hz : 0 < x.q * (S : Rat) := Rat.mul_pos h S_gt
  rw [F.q_mul] at hz
  have := Rat.intCast_lt_intCast.1 (show ((0 : Int) : Rat) < (x.z : Rat) from hz)
  exact Rat.intCast_le_intCast.2 (show (1 : Int) ≤ x.z by omega)
theorem least_root {r a : F} (h : SqD r a) (r0 : 0 < r.q) : 1 ≤ r.q * PB := by
  have a0 : 0 < a.q := by have := Rat.mul_pos r0 r0; have := h.le; grind
  have a1 := least a0
  obtain ⟨c, hc⟩ := tiny_ex
  have hP := PB_pos
  have c0 : 0 ≤ c.q := by
    apply Rat.not_lt.1
    intro g
    have := Rat.mul_pos (show 0 < -c.q by grind) hP
    grind
  have k := h.top c c0 (by
    refine Rat.le_of_mul_le_mul_right (c := PB * PB) ?_ (Rat.mul_pos hP hP)
    have : c.q * c.q * (PB * PB) = c.q * PB * (c.q * PB) := by grind
    rw [this, hc]; grind)
  have := Rat.mul_nonneg (show 0 ≤ r.q - c.q by grind) (Rat.le_of_lt hP)
  grind
/-- by a root that is not 0 -/
theorem div_root {a b : I} {s : F} (ha : rt a = true) (hb : rt b = true) (h0 : 0 < b.lo.q) (h : SqD b.lo s) (h1 : -2 ≤ a.lo.q) (h2 : a.hi.q ≤ 2) :
    ∃ r, cDiv pDiv 0 a b = (r, 0) ∧ AllR r (a.lo.q / b.lo.q) (a.lo.q / b.hi.q) (a.hi.q / b.lo.q) (a.hi.q / b.hi.q) := by
  have la := rt_le ha; have lb := rt_le hb
  have z : hasB b F.zero = false := by
    unfold hasB
    rw [hb, Bool.true_and, Bool.and_eq_false_iff, decide_eq_false_iff_not, decide_eq_false_iff_not]
    left; intro k; have := q_le.2 k; rw [q_zero] at this; grind
  have hl := least_root h h0
  have hP := PB_pos
  have hH := hugeH_q
  have hN : hugeH.neg.q = -(2 * PB) := by rw [q_neg, hH]
  have b1 : -(2 * PB * b.lo.q) ≤ a.lo.q := by grind
  have b2 : a.hi.q ≤ 2 * PB * b.lo.q := by grind
  have p1 := quot_bd (x := a.lo.q) (y := b.lo.q) (M := 2 * PB) h0 Rat.le_refl b1 (by grind) (by grind)
  have p2 := quot_bd (x := a.lo.q) (y := b.hi.q) (M := 2 * PB) h0 lb b1 (by grind) (by grind)
  have p3 := quot_bd (x := a.hi.q) (y := b.lo.q) (M := 2 * PB) h0 Rat.le_refl (by grind) b2 (by grind)
  have p4 := quot_bd (x := a.hi.q) (y := b.hi.q) (M := 2 * PB) h0 lb (by grind) b2 (by grind)
  obtain ⟨r, e, hr, _⟩ := all_has (div_four (a := a) hb z) (c := hugeH.neg) (d := hugeH) (by rw [hN]; exact p1.1) (by rw [hN]; exact p2.1) (by rw [hN]; exact p3.1) (by rw [hN]; exact p4.1) (by rw [hH]; exact p1.2) (by rw [hH]; exact p2.2) (by rw [hH]; exact p3.2) (by rw [hH]; exact p4.2)
  refine ⟨r, ?_, hr⟩
  unfold cDiv
  rw [z, cond_false, e, ask_mk (by rw [ha, hb]; rfl) rfl]
theorem al_rows {X Y nx ny A cos : I} (hX : In1 X) (hY : In1 Y) (hA : U01 A) (hc : In1 cos) :
    ∃ r t xx yy ss m, evalK KkR alP1 [cos, A, ny, nx, Y, X] 0 = ([m, ss, yy, xx, t, r, cos, A, ny, nx, Y, X], 0) ∧ SqD r.lo A.lo ∧ rt m = true ∧ SqD m.lo ss.lo ∧ SqU m.hi ss.hi ∧
      (∀ x y, Mem r x → Mem cos y → Mem t (x * y)) ∧ rt r = true ∧
      (∀ x y, Mem X x → Mem Y y → Mem ss (x * x + y * y)) ∧
      (0 < m.lo.q → In1 nx → In1 ny → ∃ al, evalK KkR alP [cos, A, ny, nx, Y, X] 0 = ((evalK KkR alP [cos, A, ny, nx, Y, X] 0).1, 0) ∧ gt (evalK KkR alP [cos, A, ny, nx, Y, X] 0).1 0 = al ∧ gt (evalK KkR alP [cos, A, ny, nx, Y, X] 0).1 8 = t ∧
        ∀ x y hx hy w, Mem X x → Mem Y y → Mem nx hx → Mem ny hy → Mem m w → Mem al ((hy * x - hx * y) / w)) := by
  obtain ⟨r, e1, r1, d1, u1⟩ := sqrt_mk (rt_q hA.rt) hA.lo
  have ri : In1 r := by
    have a := d1.nn
    have b := u1.bot one64 (by rw [one_q]; grind) (by rw [one_q]; have := hA.hi; grind)
    exact ⟨q_le.1 (by rw [mone_q]; grind), q_le.1 b, q_le.1 (rt_le r1)⟩
  obtain ⟨t, e2, i2, m2⟩ := mul_in ri hc
  obtain ⟨xx, e3, i3, m3⟩ := sqr_in hX
  obtain ⟨yy, e4, i4, m4⟩ := sqr_in hY
  obtain ⟨ss, e5, d5, u5⟩ := cAdd_ok i3.sm i4.sm
  have sr : ss.lo.q ≤ ss.hi.q := by have := d5.le; have := u5.ge; have := i3.rt; have := i4.rt; grind
  have s0 : 0 ≤ ss.lo.q := dn_nn d5 (by have := i3.lo; have := i4.lo; grind)
  obtain ⟨m, e6, r6, d6, u6⟩ := sqrt_mk (rt_q sr) s0
  refine ⟨r, t, xx, yy, ss, m, ?_, d1, r6, d6, u6, m2, r1, fun x y hx hy => add_mem d5 u5 (m3 x hx) (m4 y hy), fun h0 hnx hny => ?_⟩
  · unfold alP1
    refine (eval_cons (r := r) (e' := 0) ?_).trans ?_
    · exact e1
    refine (eval_cons (r := t) (e' := 0) ?_).trans ?_
    · exact e2
    refine (eval_cons (r := xx) (e' := 0) ?_).trans ?_
    · exact e3
    refine (eval_cons (r := yy) (e' := 0) ?_).trans ?_
    · exact e4
    refine (eval_cons (r := ss) (e' := 0) ?_).trans ?_
    · exact e5
    refine (eval_cons (r := m) (e' := 0) ?_).trans ?_
    · exact e6
    rfl
  · obtain ⟨p1, e7, i7, m7⟩ := mul_in hny hX
    obtain ⟨p2, e8, i8, m8⟩ := mul_in hnx hY
    obtain ⟨df, e9, d9, u9⟩ := cSub_ok i7.sm i8.sm
    obtain ⟨f2, g2⟩ := fl_ex 2 0 (by decide) (by decide) 2 (by decide +kernel)
    obtain ⟨⟨a1, a2⟩, ⟨a3, a4⟩, a5⟩ := in1_q i7
    obtain ⟨⟨b1, b2⟩, ⟨b3, b4⟩, b5⟩ := in1_q i8
    have dr : df.lo.q ≤ df.hi.q := by have := d9.le; have := u9.ge; grind
    have dlo : -2 ≤ df.lo.q := by have := d9.top f2.neg (by rw [q_neg, g2]; grind); rwa [q_neg, g2] at this
    have dhi : df.hi.q ≤ 2 := by have := u9.bot f2 (by rw [g2]; grind); rwa [g2] at this
    obtain ⟨al, e10, h10⟩ := div_root (a := df) (b := m) (rt_q dr) r6 h0 d6 dlo dhi
    have hE : evalK KkR alP [cos, A, ny, nx, Y, X] 0 = ([al, df, p2, p1, m, ss, yy, xx, t, r, cos, A, ny, nx, Y, X], 0) := by
      unfold alP
      refine (eval_cons (r := r) (e' := 0) ?_).trans ?_
      · exact e1
      refine (eval_cons (r := t) (e' := 0) ?_).trans ?_
      · exact e2
      refine (eval_cons (r := xx) (e' := 0) ?_).trans ?_
      · exact e3
      refine (eval_cons (r := yy) (e' := 0) ?_).trans ?_
      · exact e4
      refine (eval_cons (r := ss) (e' := 0) ?_).trans ?_
      · exact e5
      refine (eval_cons (r := m) (e' := 0) ?_).trans ?_
      · exact e6
      refine (eval_cons (r := p1) (e' := 0) ?_).trans ?_
      · exact e7
      refine (eval_cons (r := p2) (e' := 0) ?_).trans ?_
      · exact e8
      refine (eval_cons (r := df) (e' := 0) ?_).trans ?_
      · exact e9
      refine (eval_cons (r := al) (e' := 0) ?_).trans ?_
      · exact e10
      rfl
    refine ⟨al, ?_, ?_, ?_, ?_⟩
    · rw [hE]
    · rw [hE]; rfl
    · rw [hE]; rfl
    · intro x y hx hy w k1 k2 k3 k4 k5
      have z : hasB m F.zero = false := by
        unfold hasB
        rw [r6, Bool.true_and, Bool.and_eq_false_iff, decide_eq_false_iff_not, decide_eq_false_iff_not]
        left; intro k; have := q_le.2 k; rw [q_zero] at this; grind
      exact div_in r6 z h10 (sub_mem d9 u9 (m7 _ _ k4 k1) (m8 _ _ k3 k2)) k5
end Bu
