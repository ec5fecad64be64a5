/- VndfAlong, plain: the law's obligations. VndfAlong, plain: the case with a leaning direction. VndfAlong, plain: the law's own rows. -/
import Derived.Test.YtccmfddnbofgkaaGreatKp
import Derived.Test.YtccmfddnbofgkaaGreatKq
namespace Bu
set_option linter.all false
open Rx Go

theorem evalK_app (K : Kk) : ∀ (a b : List Bu.Op) (v : List I) (e : Int), evalK K (a ++ b) v e = evalK K b (evalK K a v e).1 (evalK K a v e).2
  | [], _, _, _ => rfl
  | o :: a, b, v, e => evalK_app K a b _ _
theorem d64_q : d64.q = 1 / 64 := by have : d64.q * 64 = 1 := q_of' (n := 1) (s := 6) (by decide +kernel) rfl; grind
theorem minA_q : minA.q = 1 / 32 := by have : minA.q * 32 = 1 := q_of' (n := 1) (s := 5) (by decide +kernel) rfl; grind
theorem bw1 {n : Int} : N1 (bwF mone64 one64 n) := by
  have h := bwF_in (a := mone64) (b := one64) (n := n) (q_le.1 (by rw [mone_q, one_q]; grind))
  have a := q_le.2 h.1; have b := q_le.2 h.2
  rw [mone_q] at a; rw [one_q] at b
  exact ⟨a, b⟩
theorem bw2 {n : Int} : 1 / 64 ≤ (bwF d64 one64 n).q ∧ (bwF d64 one64 n).q ≤ 1 := by
  have h := bwF_in (a := d64) (b := one64) (n := n) (q_le.1 (by rw [d64_q, one_q]; grind))
  have a := q_le.2 h.1; have b := q_le.2 h.2
  rw [d64_q] at a; rw [one_q] at b
  exact ⟨a, b⟩
theorem bw3 {n : Int} : 1 / 32 ≤ (bwF minA one64 n).q ∧ (bwF minA one64 n).q ≤ 1 := by
  have h := bwF_in (a := minA) (b := one64) (n := n) (q_le.1 (by rw [minA_q, one_q]; grind))
  have a := q_le.2 h.1; have b := q_le.2 h.2
  rw [minA_q] at a; rw [one_q] at b
  exact ⟨a, b⟩
theorem oneV_ok (a b c : Int) : OneP (oneV WR a b c) := un_ok bw1 bw1 bw2.1 bw2.2
theorem oneO_ok {a b c : Int} (ha : wN32 a = true) (hb : wN32 b = true) (hc : wN32 c = true) : obsB (oneO WR a b c) = true := by
  have h := (oneV_ok a b c).up
  obtain ⟨p1, p2, p3⟩ := aw13_p
  have z : z64.q = 0 := zero0_q
  refine obsB_yes (decide_eq_true (q_lt.1 (by rw [z]; grind))) (obsB_yes (un_B bw1 bw1 bw2.1 bw2.2) (obsB_yes p2 (obsB_yes hc (obsB_yes p1 (obsB_yes hb (obsB_yes p1 (obsB_yes ha obsB_nil)))))))
theorem in1_rt {a : I} (h : In1 a) : rt a = true := decide_eq_true h.rt
theorem dirO_ok {v : V3} (h : OneP v) : obsB (dirO v) = true := by
  have z : z64.k ≤ v.z.lo.k := q_le.1 (by rw [show z64.q = 0 from zero0_q]; have := h.up; grind)
  exact obsB_yes (decide_eq_true h.z.hi) (obsB_yes (decide_eq_true z) (obsB_yes (decide_eq_true h.y.hi) (obsB_yes (decide_eq_true h.y.lo) (obsB_yes (decide_eq_true h.x.hi) (obsB_yes (decide_eq_true h.x.lo) (obsB_yes (in1_rt h.z) (obsB_yes (in1_rt h.y) (obsB_yes (in1_rt h.x) obsB_nil))))))))
structure AlP (al : I) : Prop where
  lo : 1 / 32 ≤ al.lo.q
  rt : al.lo.q ≤ al.hi.q
  hi : al.hi.q ≤ 1
theorem alO_ok {al : I} (h : AlP al) : obsB (alO al) = true ∧ decide (al.hi.k ≤ one64.k) = true := by
  have a : al.hi.k ≤ one64.k := q_le.1 (by rw [one_q]; exact h.hi)
  have b : minA.k ≤ al.lo.k := q_le.1 (by rw [minA_q]; exact h.lo)
  exact ⟨obsB_yes (decide_eq_true a) (obsB_yes (decide_eq_true b) (obsB_yes (rt_q h.rt) obsB_nil)), decide_eq_true a⟩
theorem al_one : AlP (pt one64) := ⟨by show _ ≤ one64.q; rw [one_q]; grind, Rat.le_refl, by show one64.q ≤ 1; rw [one_q]; grind⟩
def u64w (n : Int) : Prop := 0 ≤ n ∧ n ≤ 18446744073709551615
theorem vo_ok {v : V3} {al : I} {d e : Int} (hv : OneP v) (ha : AlP al) (hd : u64w d) (he : u64w e) : obsB (vo13 WR v al d e) = true := by
  obtain ⟨a1, a2⟩ := alO_ok ha
  refine ob2 (ob2 (ob2 (obsB_yes (decide_eq_true hd) (obsB_yes (unI_in e he.1 he.2) (obsB_yes (decide_eq_true he) obsB_nil))) (dirO_ok hv)) a1) (obsB_yes a2 obsB_nil)
/-! the draw's errors -/
def drFl : List Bool := [true, false, false, true, true, false, false]
theorem dr_chk : chk drP1 drFl = true ∧ chk drTa drFl = true ∧ chk drTb drFl = true ∧ chk drA drFl = true ∧ chk drB drFl = true := by decide +kernel
def envR (v : V3) (al : I) (d e : Int) : List I := drEnv (KqR atR) v al d e
theorem env_rt {v : V3} {al : I} {d e : Int} (hv : OneP v) (ha : AlP al) (hd : u64w d) (he : u64w e) : ∀ a ∈ envR v al d e, rt a = true := by
  intro a h
  have hu := unI_U d hd.1 hd.2
  have c := cosM_in (unI e).lo (unI e).hi
  have s := sinM_in (unI e).lo (unI e).hi
  simp only [envR, drEnv, List.mem_cons, List.not_mem_nil, or_false] at h
  rcases h with rfl | rfl | rfl | rfl | rfl | rfl | rfl
  · exact rt_q hu.rt
  · exact in1_rt c
  · exact in1_rt s
  · exact rt_q ha.rt
  · exact in1_rt hv.z
  · exact in1_rt hv.y
  · exact in1_rt hv.x
theorem env_fl {v : V3} {al : I} {d e : Int} (hv : OneP v) (ha : AlP al) (hd : u64w d) (he : u64w e) : Flags drFl (envR v al d e) := by
  have hu := unI_U d hd.1 hd.2
  intro i hi
  match i, hi with
  | 0, _ => exact hu.lo
  | 1, h => exact absurd h (by decide)
  | 2, h => exact absurd h (by decide)
  | 3, _ => have := ha.lo; show 0 ≤ al.lo.q; grind
  | 4, _ => have := hv.up; show 0 ≤ v.z.lo.q; grind
  | 5, h => exact absurd h (by decide)
  | 6, h => exact absurd h (by decide)
  | i + 7, h => exact absurd h (by simp [drFl])
theorem neB_t {e : Int} (h : neB e = false) : e = 0 := by unfold neB at h; simpa using h
theorem drX_er {K : Kk} {p1 p2 : List Bu.Op} {v : List I} (h1 : Er (evalK K p1 v 0).2) (h2 : Er (evalK K p2 v 0).2) : Er (drX K p1 p2 v).2 := by
  unfold drX
  cases neB (evalK K p1 v 0).2
  · cases neB (evalK K p2 v 0).2
    · exact .inl rfl
    · exact h2
  · exact h1
theorem drN_er {K : Kk} {v : List I} (h1 : Er (evalK K drP1 v 0).2) : Er (drN K v).2 := by
  unfold drN
  cases neB (evalK K drP1 v 0).2
  · exact .inr (.inr rfl)
  · exact h1
theorem drR_er {K : Kk} {v : List I} (h1 : Er (evalK K drP1 v 0).2) (h2 : Er (evalK K drTa v 0).2) (h3 : Er (evalK K drTb v 0).2) (h4 : Er (evalK K drA v 0).2) (h5 : Er (evalK K drB v 0).2) : Er (drR K v).2 := by
  unfold drR
  cases decide ((drQ K v).hi.k = z64.k)
  · cases decide (z64.k < (drQ K v).lo.k)
    · exact drN_er h1
    · exact drX_er h3 h5
  · exact drX_er h2 h4
theorem dr_er {v : V3} {al : I} {d e : Int} (hv : OneP v) (ha : AlP al) (hd : u64w d) (he : u64w e) : Er (drR KkR (envR v al d e)).2 := by
  have r := env_rt hv ha hd he
  have f := env_fl hv ha hd he
  obtain ⟨c1, c2, c3, c4, c5⟩ := dr_chk
  generalize envR v al d e = w at r f ⊢
  exact drR_er (eval_er' c1 f r) (eval_er' c2 f r) (eval_er' c3 f r) (eval_er' c4 f r) (eval_er' c5 f r)
theorem drX_0 {K : Kk} {p1 p2 : List Bu.Op} {v : List I} (h : (drX K p1 p2 v).2 = 0) : (evalK K p2 v 0).2 = 0 ∧ (drX K p1 p2 v).1 = drV K p2 v := by
  unfold drX at h ⊢
  cases c3 : neB (evalK K p1 v 0).2
  · rw [c3] at h
    cases c4 : neB (evalK K p2 v 0).2
    · exact ⟨neB_t c4, rfl⟩
    · rw [c4] at h
      simp only [cond_false, cond_true] at h
      unfold neB at c4
      rw [h] at c4; exact absurd c4 (by decide)
  · rw [c3, cond_true] at h
    unfold neB at c3
    rw [h] at c3; exact absurd c3 (by decide)
theorem drN_0 {K : Kk} {v : List I} (h : (drN K v).2 = 0) : False := by
  unfold drN at h
  cases c3 : neB (evalK K drP1 v 0).2
  · rw [c3] at h; revert h; exact (by decide : ¬ ((11 : Int) = 0))
  · rw [c3, cond_true] at h
    unfold neB at c3
    rw [h] at c3; exact absurd c3 (by decide)
/-- without an error -/
theorem drR_0 {K : Kk} {v : List I} (h' : (drR K v).2 = 0) :
    (decide ((drQ K v).hi.k = z64.k) = true ∧ (evalK K drA v 0).2 = 0 ∧ (drR K v).1 = drV K drA v) ∨
    ((evalK K drB v 0).2 = 0 ∧ (drR K v).1 = drV K drB v) := by
  unfold drR at h' ⊢
  cases c1 : decide ((drQ K v).hi.k = z64.k)
  · rw [c1, cond_false] at h'
    cases c2 : decide (z64.k < (drQ K v).lo.k)
    · rw [c2, cond_false] at h'
      exact absurd h' (fun h => drN_0 h)
    · rw [c2, cond_true] at h'
      rw [cond_false, cond_true]
      exact .inr (drX_0 h')
  · rw [c1, cond_true] at h'
    rw [cond_true]
    exact .inl ⟨rfl, drX_0 h'⟩
end Bu
namespace Bu
set_option linter.all false
open Rx Go

theorem dr_ab {v : V3} {d e : Int} (hv : OneP v) (hd : u64w d) (he : u64w e) (h : (evalK KkR drB (envR v (pt one64) d e) 0).2 = 0) :
    ∃ R c s, AB v.x v.y v.z (sinM atR (unI e).lo (unI e).hi) (cosM atR (unI e).lo (unI e).hi) (unI d) R (drV KkR drB (envR v (pt one64) d e)) v.x.lo.q v.y.lo.q v.z.lo.q c s := by
  have hc := (eval_chain h).2
  have hu := unI_U d hd.1 hd.2
  have c1 := cosM_in (unI e).lo (unI e).hi
  have s1 := sinM_in (unI e).lo (unI e).hi
  obtain ⟨R, T⟩ := drB_tells (rt_q (a := pt one64) Rat.le_refl) (in1_rt hv.x) (in1_rt hv.y) (in1_rt hv.z) (by have := hv.up; grind) (rt_q hu.rt) (in1_rt s1) (in1_rt c1) hc
  obtain ⟨s, c, ms, mc, k⟩ := (circ_M (unI_in e he.1 he.2)).low
  exact ⟨R, c, s, ⟨T, ⟨Rat.le_refl, q_le.2 hv.x.rt⟩, ⟨Rat.le_refl, q_le.2 hv.y.rt⟩, ⟨Rat.le_refl, q_le.2 hv.z.rt⟩, by have := hv.up; grind, mc, ms, k, by have := hu.hi; have := hu.rt; grind, rt_q hu.rt⟩⟩
/-- a direction that leans draws no case of its own -/
theorem p1_q {X Y Z al sin cos A : I} {u : List I} (hal : rt al = true) (hX : rt X = true) (hY : rt Y = true) (hZ : rt Z = true) (hZ0 : 0 ≤ Z.lo.q) (h : Chain drP1 [A, cos, sin, al, Z, Y, X] u) {a x y : Rat} (ha : Mem al a) (hx : Mem X x) (hy : Mem Y y) (hp : 0 < a * x * (a * x) + a * y * (a * y)) :
    0 < (gt u 0).hi.q := by
  obtain ⟨one, hone, none, hnone, sx, hsx, sy, hsy, n1, hn1, qx, hqx, qy, hqy, s1, hs1, qz, hqz, s2, hs2, nn, hnn, k, hk, wx, hwx, wy, hwy, wz, hwz, vx, hvx, vy, hvy, vz, hvz, ax, hax, ay, hay, q, hq, hend⟩ := h
  have zq : z64.q = 0 := zero0_q
  have e1 := p_mul hsx ha hx
  have e2 := p_mul hsy ha hy
  have mz : Mem Z Z.lo.q := ⟨Rat.le_refl, rt_le hZ⟩
  have es := p_add hs2 (p_add hs1 (p_sqr hqx e1) (p_sqr hqy e2)) (p_sqr hqz mz)
  have nnQ := p_sqrt hnn es
  have nr : nn.lo.q ≤ nn.hi.q := sq_le' nnQ.1 nnQ.2.2.2 (by have := nnQ.2.1; have := nnQ.2.2.1; grind)
  have n0 : 0 < nn.lo.q := by
    rcases no_zero (rt_q nr) hk.1 with e | e
    · exact e
    · have := nnQ.1; grind
  have sz := sq_nn Z.lo.q
  have hn : 0 < nn.hi.q := by grind
  have ek := p_div hk (p_num hn1 one_q) (show Mem nn nn.hi.q from ⟨nr, Rat.le_refl⟩)
  have k1 := nnQ.2.2.1
  have b1 := clip1 (x := a * x) hn (by have := sq_nn (a * y); grind)
  have b2 := clip1 (x := a * y) hn (by have := sq_nn (a * x); grind)
  have x1 := p_kept hvx (p_mul hwx ek e1) (by rw [mone_q]; exact b1.1) (by rw [one_q]; exact b1.2)
  have y1 := p_kept hvy (p_mul hwy ek e2) (by rw [mone_q]; exact b2.1) (by rw [one_q]; exact b2.2)
  have qq := (p_add hq (p_sqr hax x1) (p_sqr hay y1)).hi
  have i0 : 0 < 1 / nn.hi.q := by rw [Rat.div_def, Rat.one_mul]; exact Rat.inv_pos.2 hn
  have pos := Rat.mul_pos (Rat.mul_pos i0 i0) hp
  have uq : gt u 0 = q := by rw [hend]; rfl
  rw [uq]
  generalize 1 / nn.hi.q = w at *
  grind
end Bu
namespace Bu
set_option linter.all false
open Rx Go

def E537 : Nat := 2 ^ 537
def PB : Rat := (E537 : Rat)
theorem E537_S : decide (S = E537 * E537 ∧ 0 < E537) = true := by decide +kernel
def hugeH : F := F.of ((1561 * 4503599627370496 : Nat) : Int)
set_option maxRecDepth 100000 in
theorem hugeH_z : decide (hugeH.z = ((2 * E537 * S : Nat) : Int)) = true := by decide +kernel
attribute [irreducible] E537 hugeH
theorem PB_pos : 0 < PB := by
  have h := Rat.natCast_lt_natCast.2 (of_decide_eq_true E537_S).2
  exact h
theorem hugeH_q : hugeH.q = 2 * PB := by
  have h := F.q_mul hugeH
  rw [of_decide_eq_true hugeH_z] at h
  have h2 : (((2 * E537 * S : Nat) : Int) : Rat) = 2 * PB * (S : Rat) := by
    unfold PB
    rw [Rat.intCast_natCast, Rat.natCast_mul, Rat.natCast_mul]; rfl
  rw [h2] at h
  have hs := S_gt
  generalize (S : Rat) = s at *
  generalize PB = m at *
  have e : (hugeH.q - 2 * m) * s = 0 := by grind
  rcases Rat.mul_eq_zero.1 e with e | e
  · grind
  · grind
theorem tiny_ex : ∃ c : F, c.q * PB = 1 := by
  obtain ⟨c, hc⟩ := grid 1 (by decide) 537 (by decide) (by decide)
  refine ⟨c, ?_⟩
  have e : PB = ((2 ^ 537 : Nat) : Rat) := by unfold PB E537; rfl
  rw [e]
  exact hc
theorem S_PB : (S : Rat) = PB * PB := by
  unfold PB
  rw [← Rat.natCast_mul, ← (of_decide_eq_true E537_S).1]
/-- what is above 0 is not below the smallest number -/
theorem least {x : F} (h : 0 < x.q) : 1 ≤ x.q * (PB * PB) := by
  rw [← S_PB, F.q_mul]
  have hz : 0 < x.q * (S : Rat) := Rat.mul_pos h S_gt
  rw [F.q_mul] at hz
  have := Rat.intCast_lt_intCast.1 (show ((0 : Int) : Rat) < (x.z : Rat) from hz)
  exact Rat.intCast_le_intCast.2 (show (1 : Int) ≤ x.z by omega)
theorem least_root {r a : F} (h : SqD r a) (r0 : 0 < r.q) : 1 ≤ r.q * PB := by
  have a0 : 0 < a.q := by have := Rat.mul_pos r0 r0; have := h.le; grind
  have a1 := least a0
  obtain ⟨c, hc⟩ := tiny_ex
  have hP := PB_pos
  have c0 : 0 ≤ c.q := by
    apply Rat.not_lt.1
    intro g
    have := Rat.mul_pos (show 0 < -c.q by grind) hP
    grind
  have k := h.top c c0 (by
    refine Rat.le_of_mul_le_mul_right (c := PB * PB) ?_ (Rat.mul_pos hP hP)
    have : c.q * c.q * (PB * PB) = c.q * PB * (c.q * PB) := by grind
    rw [this, hc]; grind)
  have := Rat.mul_nonneg (show 0 ≤ r.q - c.q by grind) (Rat.le_of_lt hP)
  grind
/-- by a root that is not 0 -/
theorem div_root {a b : I} {s : F} (ha : rt a = true) (hb : rt b = true) (h0 : 0 < b.lo.q) (h : SqD b.lo s) (h1 : -2 ≤ a.lo.q) (h2 : a.hi.q ≤ 2) :
    ∃ r, cDiv pDiv 0 a b = (r, 0) ∧ AllR r (a.lo.q / b.lo.q) (a.lo.q / b.hi.q) (a.hi.q / b.lo.q) (a.hi.q / b.hi.q) := by
  have la := rt_le ha; have lb := rt_le hb
  have z : hasB b F.zero = false := by
    unfold hasB
    rw [hb, Bool.true_and, Bool.and_eq_false_iff, decide_eq_false_iff_not, decide_eq_false_iff_not]
    left; intro k; have := q_le.2 k; rw [q_zero] at this; grind
  have hl := least_root h h0
  have hP := PB_pos
  have hH := hugeH_q
  have hN : hugeH.neg.q = -(2 * PB) := by rw [q_neg, hH]
  have b1 : -(2 * PB * b.lo.q) ≤ a.lo.q := by grind
  have b2 : a.hi.q ≤ 2 * PB * b.lo.q := by grind
  have p1 := quot_bd (x := a.lo.q) (y := b.lo.q) (M := 2 * PB) h0 Rat.le_refl b1 (by grind) (by grind)
  have p2 := quot_bd (x := a.lo.q) (y := b.hi.q) (M := 2 * PB) h0 lb b1 (by grind) (by grind)
  have p3 := quot_bd (x := a.hi.q) (y := b.lo.q) (M := 2 * PB) h0 Rat.le_refl (by grind) b2 (by grind)
  have p4 := quot_bd (x := a.hi.q) (y := b.hi.q) (M := 2 * PB) h0 lb (by grind) b2 (by grind)
  obtain ⟨r, e, hr, _⟩ := all_has (div_four (a := a) hb z) (c := hugeH.neg) (d := hugeH) (by rw [hN]; exact p1.1) (by rw [hN]; exact p2.1) (by rw [hN]; exact p3.1) (by rw [hN]; exact p4.1) (by rw [hH]; exact p1.2) (by rw [hH]; exact p2.2) (by rw [hH]; exact p3.2) (by rw [hH]; exact p4.2)
  refine ⟨r, ?_, hr⟩
  unfold cDiv
  rw [z, cond_false, e, ask_mk (by rw [ha, hb]; rfl) rfl]
theorem al_rows {X Y nx ny A cos : I} (hX : In1 X) (hY : In1 Y) (hA : U01 A) (hc : In1 cos) :
    ∃ r t xx yy ss m, evalK KkR alP1 [cos, A, ny, nx, Y, X] 0 = ([m, ss, yy, xx, t, r, cos, A, ny, nx, Y, X], 0) ∧ SqD r.lo A.lo ∧ rt m = true ∧ SqD m.lo ss.lo ∧ SqU m.hi ss.hi ∧
      (∀ x y, Mem r x → Mem cos y → Mem t (x * y)) ∧ rt r = true ∧
      (∀ x y, Mem X x → Mem Y y → Mem ss (x * x + y * y)) ∧
      (0 < m.lo.q → In1 nx → In1 ny → ∃ al, evalK KkR alP [cos, A, ny, nx, Y, X] 0 = ((evalK KkR alP [cos, A, ny, nx, Y, X] 0).1, 0) ∧ gt (evalK KkR alP [cos, A, ny, nx, Y, X] 0).1 0 = al ∧ gt (evalK KkR alP [cos, A, ny, nx, Y, X] 0).1 8 = t ∧
        ∀ x y hx hy w, Mem X x → Mem Y y → Mem nx hx → Mem ny hy → Mem m w → Mem al ((hy * x - hx * y) / w)) := by
  obtain ⟨r, e1, r1, d1, u1⟩ := sqrt_mk (rt_q hA.rt) hA.lo
  have ri : In1 r := by
    have a := d1.nn
    have b := u1.bot one64 (by rw [one_q]; grind) (by rw [one_q]; have := hA.hi; grind)
    exact ⟨q_le.1 (by rw [mone_q]; grind), q_le.1 b, q_le.1 (rt_le r1)⟩
  obtain ⟨t, e2, i2, m2⟩ := mul_in ri hc
  obtain ⟨xx, e3, i3, m3⟩ := sqr_in hX
  obtain ⟨yy, e4, i4, m4⟩ := sqr_in hY
  obtain ⟨ss, e5, d5, u5⟩ := cAdd_ok i3.sm i4.sm
  have sr : ss.lo.q ≤ ss.hi.q := by have := d5.le; have := u5.ge; have := i3.rt; have := i4.rt; grind
  have s0 : 0 ≤ ss.lo.q := dn_nn d5 (by have := i3.lo; have := i4.lo; grind)
  obtain ⟨m, e6, r6, d6, u6⟩ := sqrt_mk (rt_q sr) s0
  refine ⟨r, t, xx, yy, ss, m, ?_, d1, r6, d6, u6, m2, r1, fun x y hx hy => add_mem d5 u5 (m3 x hx) (m4 y hy), fun h0 hnx hny => ?_⟩
  · unfold alP1
    refine (eval_cons (r := r) (e' := 0) ?_).trans ?_
    · exact e1
    refine (eval_cons (r := t) (e' := 0) ?_).trans ?_
    · exact e2
    refine (eval_cons (r := xx) (e' := 0) ?_).trans ?_
    · exact e3
    refine (eval_cons (r := yy) (e' := 0) ?_).trans ?_
    · exact e4
    refine (eval_cons (r := ss) (e' := 0) ?_).trans ?_
    · exact e5
    refine (eval_cons (r := m) (e' := 0) ?_).trans ?_
    · exact e6
    rfl
  · obtain ⟨p1, e7, i7, m7⟩ := mul_in hny hX
    obtain ⟨p2, e8, i8, m8⟩ := mul_in hnx hY
    obtain ⟨df, e9, d9, u9⟩ := cSub_ok i7.sm i8.sm
    obtain ⟨f2, g2⟩ := fl_ex 2 0 (by decide) (by decide) 2 (by decide +kernel)
    obtain ⟨⟨a1, a2⟩, ⟨a3, a4⟩, a5⟩ := in1_q i7
    obtain ⟨⟨b1, b2⟩, ⟨b3, b4⟩, b5⟩ := in1_q i8
    have dr : df.lo.q ≤ df.hi.q := by have := d9.le; have := u9.ge; grind
    have dlo : -2 ≤ df.lo.q := by have := d9.top f2.neg (by rw [q_neg, g2]; grind); rwa [q_neg, g2] at this
    have dhi : df.hi.q ≤ 2 := by have := u9.bot f2 (by rw [g2]; grind); rwa [g2] at this
    obtain ⟨al, e10, h10⟩ := div_root (a := df) (b := m) (rt_q dr) r6 h0 d6 dlo dhi
    have hE : evalK KkR alP [cos, A, ny, nx, Y, X] 0 = ([al, df, p2, p1, m, ss, yy, xx, t, r, cos, A, ny, nx, Y, X], 0) := by
      unfold alP
      refine (eval_cons (r := r) (e' := 0) ?_).trans ?_
      · exact e1
      refine (eval_cons (r := t) (e' := 0) ?_).trans ?_
      · exact e2
      refine (eval_cons (r := xx) (e' := 0) ?_).trans ?_
      · exact e3
      refine (eval_cons (r := yy) (e' := 0) ?_).trans ?_
      · exact e4
      refine (eval_cons (r := ss) (e' := 0) ?_).trans ?_
      · exact e5
      refine (eval_cons (r := m) (e' := 0) ?_).trans ?_
      · exact e6
      refine (eval_cons (r := p1) (e' := 0) ?_).trans ?_
      · exact e7
      refine (eval_cons (r := p2) (e' := 0) ?_).trans ?_
      · exact e8
      refine (eval_cons (r := df) (e' := 0) ?_).trans ?_
      · exact e9
      refine (eval_cons (r := al) (e' := 0) ?_).trans ?_
      · exact e10
      rfl
    refine ⟨al, ?_, ?_, ?_, ?_⟩
    · rw [hE]
    · rw [hE]; rfl
    · rw [hE]; rfl
    · intro x y hx hy w k1 k2 k3 k4 k5
      have z : hasB m F.zero = false := by
        unfold hasB
        rw [r6, Bool.true_and, Bool.and_eq_false_iff, decide_eq_false_iff_not, decide_eq_false_iff_not]
        left; intro k; have := q_le.2 k; rw [q_zero] at this; grind
      exact div_in r6 z h10 (sub_mem d9 u9 (m7 _ _ k4 k1) (m8 _ _ k3 k2)) k5
end Bu
