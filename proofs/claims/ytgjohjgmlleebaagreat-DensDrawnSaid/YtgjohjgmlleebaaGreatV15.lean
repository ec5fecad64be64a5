/- burnishlaw21.EvalCoat, proved. EvalBack, plain: turned triples; both ways the same; mirrors. DensDrawn, plain: what is sent is drawn; mirrors by what they send back. EvalBack by the reckoner: the run. burnishlaw21.EvalBack, proved. burnishlaw22.DensDrawn, proved. -/
import Derived.Test.YtgjohjgmlleebaaGreatV14
namespace Bu
set_option linter.all false
open Rx Go
theorem bZ_mem {a : I} (h : InB a bZ) : Mem a 0 := by
  obtain ⟨e1, e2⟩ := bZ_eq h
  have h1 : a.lo = F.zero := F.ext' e1
  have h2 : a.hi = F.zero := F.ext' e2
  exact ⟨by rw [h1, q_zero]; exact Rat.le_refl, by rw [h2, q_zero]; exact Rat.le_refl⟩
end Bu
namespace Go.Proofs.YtgjohjgmlleebaaGreat
set_option linter.all false
open Go.RowKit Bu Rx
theorem ltF_leaf {v u : V3} {cs : List SV} {k i : Nat} {n : Nd} {d : I} (hn : ndR cs (i * 19) = n) (h5 : n.k ≠ 5) (h6 : n.k ≠ 6) (hd : NeR.g (lfE v u k n) = (d, 0)) : ltF NeR v u cs k i = ⟨d, I.zero⟩ := by
  show (evN NeR v u k _ (ndR cs (i * 19))).1 = _
  rw [hn]
  unfold evN
  rw [decide_eq_false h5, decide_eq_false h6, cond_false, cond_false, hd]
theorem ltF_coat {v u : V3} {cs : List SV} {k i : Nat} {n : Nd} {fi fo s h x y f q t z r : I} (hn : ndR cs (i * 19) = n) (h6 : n.k = 6) (ha : 0 ≤ n.a ∧ n.a < i) (d1 : NeR.D v.z ⟨n.f 14, n.f 14⟩ = (fi, 0)) (d2 : NeR.D u.z ⟨n.f 14, n.f 14⟩ = (fo, 0))
    (O : OvP fi fo (n.f (3 + k)) (ltF NeR v u cs k n.a.toNat) s h x y f q t z r) : ltF NeR v u cs k i = ⟨f, r⟩ := by
  show (evN NeR v u k (fun j => (chL (allE NeR v u cs k) i).getD j Ch.zero) (ndR cs (i * 19))).1 = _
  rw [hn]
  unfold evN
  rw [decide_eq_false (show n.k ≠ 5 by omega), decide_eq_true h6, cond_false, cond_true, d1, d2]
  show (overC KkR fi fo (n.f (3 + k)) ((chL (allE NeR v u cs k) i).getD n.a.toNat Ch.zero)).1 = _
  have g : (chL (allE NeR v u cs k) i).getD n.a.toNat Ch.zero = ltF NeR v u cs k n.a.toNat := chL_get _ (show n.a.toNat < i by omega)
  rw [g, O.eq]
end Go.Proofs.YtgjohjgmlleebaaGreat
namespace Bu
set_option linter.all false
open Rx Go
theorem sqr_pt {a r : I} {x : Rat} (h : KkR.sqr 0 a = (r, 0)) (hx : Mem a x) : Mem r (x * x) := by
  have st : (stepK KkR (.sqr 0) [a] 0).2 = 0 := by show (KkR.sqr 0 a).2 = 0; rw [h]
  have f := (step_fact st).2.2
  have e : (stepK KkR (.sqr 0) [a] 0).1 = r := by show (KkR.sqr 0 a).1 = r; rw [h]
  rw [e] at f
  exact p_sqr f hx
end Bu
namespace Go.Proofs.YtgjohjgmlleebaaGreat
set_option linter.all false
open Go.RowKit Bu Rx
theorem ltF_mix {v u : V3} {cs : List SV} {k i : Nat} {n : Nd} {p m : I} (hn : ndR cs (i * 19) = n) (h5 : n.k = 5) (ha : 0 ≤ n.a ∧ n.a < i) (hb : 0 ≤ n.b ∧ n.b < i)
    (hp : mixK KkR 0 (n.f 15) (ltF NeR v u cs k n.a.toNat).p (ltF NeR v u cs k n.b.toNat).p = (p, 0)) (hm : mixK KkR 0 (n.f 15) (ltF NeR v u cs k n.a.toNat).m (ltF NeR v u cs k n.b.toNat).m = (m, 0)) : ltF NeR v u cs k i = ⟨p, m⟩ := by
  show (evN NeR v u k (fun j => (chL (allE NeR v u cs k) i).getD j Ch.zero) (ndR cs (i * 19))).1 = _
  rw [hn]
  unfold evN
  rw [decide_eq_true h5, cond_true]
  show (mixC KkR (n.f 15) ((chL (allE NeR v u cs k) i).getD n.a.toNat Ch.zero) ((chL (allE NeR v u cs k) i).getD n.b.toNat Ch.zero)).1 = _
  have ga : (chL (allE NeR v u cs k) i).getD n.a.toNat Ch.zero = ltF NeR v u cs k n.a.toNat := chL_get _ (show n.a.toNat < i by omega)
  have gb : (chL (allE NeR v u cs k) i).getD n.b.toNat Ch.zero = ltF NeR v u cs k n.b.toNat := chL_get _ (show n.b.toNat < i by omega)
  rw [ga, gb, mixC_st hp hm]
section
variable {v u v' u' : V3} (hv : OneP v) (hu : OneP u) (hv' : OneP v') (hu' : OneP u') {cs : List SV} {len : Nat} (K : OkPg cs len) (hlen : len ≤ 20) {k : Nat} (hk : k < 3)
include hv hu K hlen hk
end
end Go.Proofs.YtgjohjgmlleebaaGreat
namespace Bu
set_option linter.all false
open Rx Go
theorem mul_lo {x a r x' a' r' : I} (h : KkR.mul 0 x a = (r, 0)) (h' : KkR.mul 0 x' a' = (r', 0)) (x0 : 0 ≤ x.lo.q) (a0 : 0 ≤ a.lo.q) (hx : x.lo.q ≤ x'.lo.q) (ha : a.lo.q ≤ a'.lo.q) (rx : x'.lo.q ≤ x'.hi.q) (ra : a'.lo.q ≤ a'.hi.q) : r.lo.q ≤ r'.lo.q := by
  have f : AllR r (x.lo.q * a.lo.q) (x.lo.q * a.hi.q) (x.hi.q * a.lo.q) (x.hi.q * a.hi.q) := mul_f h
  have f' : AllR r' (x'.lo.q * a'.lo.q) (x'.lo.q * a'.hi.q) (x'.hi.q * a'.lo.q) (x'.hi.q * a'.hi.q) := mul_f h'
  have l := f.lo.1
  have le : ∀ {s t : Rat}, x'.lo.q ≤ s → a'.lo.q ≤ t → r.lo.q ≤ s * t := fun {s t} hs ht => by
    have p1 := Rat.mul_nonneg (show 0 ≤ s - x.lo.q by grind) (show 0 ≤ t by grind)
    have p2 := Rat.mul_nonneg x0 (show 0 ≤ t - a.lo.q by grind)
    grind
  rcases f'.loE with d | d | d | d
  · exact d.top _ (le Rat.le_refl Rat.le_refl)
  · exact d.top _ (le Rat.le_refl ra)
  · exact d.top _ (le rx Rat.le_refl)
  · exact d.top _ (le rx ra)
theorem add_lo {a b r a' b' r' : I} (h : KkR.add 0 a b = (r, 0)) (h' : KkR.add 0 a' b' = (r', 0)) (ha : a.lo.q ≤ a'.lo.q) (hb : b.lo.q ≤ b'.lo.q) : r.lo.q ≤ r'.lo.q := by
  have f : Dn r.lo (a.lo.q + b.lo.q) := (add_f h).1
  have f' : Dn r'.lo (a'.lo.q + b'.lo.q) := (add_f h').1
  have l := f.le
  exact f'.top _ (by grind)
theorem in0 {a A : I} (h : InB a A) (hA : 0 ≤ A.lo.q) : 0 ≤ a.lo.q := Rat.le_trans hA (q_le.2 h.1)
theorem in_rt {a A : I} (h : InB a A) : a.lo.q ≤ a.hi.q := q_le.2 h.2.2
theorem pb0 (i : Nat) : 0 ≤ (Pb i).lo.q := by
  have h : z64.q = 0 := zero0_q
  show 0 ≤ z64.q
  rw [h]; exact Rat.le_refl
theorem mb0 (i : Nat) : 0 ≤ (Mb i).lo.q := by
  have h : z64.q = 0 := zero0_q
  show 0 ≤ z64.q
  rw [h]; exact Rat.le_refl
theorem bz10 : 0 ≤ bz1.lo.q := by
  have h : z64.q = 0 := zero0_q
  show 0 ≤ z64.q
  rw [h]; exact Rat.le_refl
theorem mixK_lo {w : F} {a b a' b' r r' A C A' C' : I} (hw : z64.k ≤ w.k ∧ w.k ≤ one64.k) (ha : InB a A) (hb : InB b A) (h1 : byE A A = true) (h2 : adE A A C = true) (ha' : InB a' A') (hb' : InB b' A') (h1' : byE A' A' = true) (h2' : adE A' A' C' = true) (hA : 0 ≤ A.lo.q)
    (la : a.lo.q ≤ a'.lo.q) (lb : b.lo.q ≤ b'.lo.q) (h : mixK KkR 0 w a b = (r, 0)) (h' : mixK KkR 0 w a' b' = (r', 0)) : r.lo.q ≤ r'.lo.q := by
  obtain ⟨s, e1, b1⟩ := less_in (pt_z1 hw)
  obtain ⟨m1, e2, b2⟩ := by_in b1 ha h1
  obtain ⟨m2, e3, b3⟩ := by_in (pt_z1 hw) hb h1
  obtain ⟨q, e4, _⟩ := ad_in b2 b3 h2
  obtain ⟨m1', e2', b2'⟩ := by_in b1 ha' h1'
  obtain ⟨m2', e3', b3'⟩ := by_in (pt_z1 hw) hb' h1'
  obtain ⟨q', e4', _⟩ := ad_in b2' b3' h2'
  obtain rfl : r = q := (Prod.mk.inj (h.symm.trans (mixK_st e1 e2 e3 e4))).1
  obtain rfl : r' = q' := (Prod.mk.inj (h'.symm.trans (mixK_st e1 e2' e3' e4'))).1
  exact add_lo e4 e4' (mul_lo e2 e2' (in0 b1 bz10) (in0 ha hA) Rat.le_refl la (in_rt b1) (in_rt ha')) (mul_lo e3 e3' (in0 (pt_z1 hw) bz10) (in0 hb hA) Rat.le_refl lb (in_rt (pt_z1 hw)) (in_rt hb'))
theorem pos_of {a b : Rat} (ha : 0 ≤ a) (hb : 0 ≤ b) (h : 0 < a * b) : 0 < a ∧ 0 < b := by
  constructor
  · by_cases h1 : a = 0
    · rw [h1, Rat.zero_mul] at h; exact absurd h Rat.lt_irrefl
    · grind
  · by_cases h1 : b = 0
    · rw [h1, Rat.mul_zero] at h; exact absurd h Rat.lt_irrefl
    · grind
end Bu
namespace Go.Proofs.YtgjohjgmlleebaaGreat
set_option linter.all false
open Go.RowKit Bu Rx
section
variable {v u : V3} (hv : OneP v) (hu : OneP u) {cs : List SV} {len : Nat} (K : OkPg cs len) (hlen : len ≤ 20) {k : Nat} (hk : k < 3)
noncomputable abbrev ddCh (v u : V3) (cs : List SV) (i : Nat) : Ch := chF (allF NdR u.z (lfR (dnG4 GmR) v u) cs) i
include hv hu K hlen hk
theorem dd_node : ∀ i, i < len → (∃ f d : Rat, 0 ≤ f ∧ 0 ≤ d ∧ (0 < f → 0 < d) ∧ Mem (ltF NeR v u cs k i).p f ∧ Mem (ddCh v u cs i).p d) ∧ (ltF NeR v u cs k i).m.lo.q ≤ (ddCh v u cs i).m.lo.q ∧ ∃ x : Rat, 0 ≤ x ∧ x ≤ 1 ∧ Mem (ddCh v u cs i).m x := by
  have hcv := bzz_bz1 (one_box hv).2.2
  have hcu := bzz_bz1 (one_box hu).2.2
  have zq : z64.q = 0 := zero0_q
  have hC := chs_ok hcu K hlen (lfs_den K hv hu)
  have hE := evs_ok hv hu K hlen hk
  intro i
  induction i using Nat.strongRecOn with
  | _ i ih =>
    intro hi
    have hnd := K.nd i hi
    generalize hn : ndR cs (i * 19) = n at hnd
    by_cases h5 : n.k = 5
    · obtain ⟨⟨a0, a1⟩, b0, b1⟩ := okNd_mix hnd h5
      have w := okNd_mixw hnd h5
      obtain ⟨_, pa, ma⟩ := hE n.a.toNat (by omega)
      obtain ⟨_, pb, mb⟩ := hE n.b.toNat (by omega)
      obtain ⟨_, pa', ma'⟩ := hC n.a.toNat (by omega)
      obtain ⟨_, pb', mb'⟩ := hC n.b.toNat (by omega)
      obtain ⟨⟨f, d, f0, d0, fd, fm, dm⟩, la, x, x0, x1, xm⟩ := ih n.a.toNat (by omega) (by omega)
      obtain ⟨⟨g, e, g0, e0, ge, gm, em⟩, lb, y, y0, y1, ym⟩ := ih n.b.toNat (by omega) (by omega)
      have L := lv_ok (i := i - 1) (by omega)
      have pa := Pb_le (i := n.a.toNat) (j := i - 1) (by omega) (by omega) pa
      have pb := Pb_le (i := n.b.toNat) (j := i - 1) (by omega) (by omega) pb
      have ma := Mb_le (i := n.a.toNat) (j := i - 1) (by omega) (by omega) ma
      have mb := Mb_le (i := n.b.toNat) (j := i - 1) (by omega) (by omega) mb
      have pa' := Pb_le (i := n.a.toNat) (j := i - 1) (by omega) (by omega) pa'
      have pb' := Pb_le (i := n.b.toNat) (j := i - 1) (by omega) (by omega) pb'
      have ma' := Mb_le (i := n.a.toNat) (j := i - 1) (by omega) (by omega) ma'
      have mb' := Mb_le (i := n.b.toNat) (j := i - 1) (by omega) (by omega) mb'
      obtain ⟨p, p1, _, p2⟩ := mixK_pt w pa pb L.p L.pp
      obtain ⟨m, m1, _, m2⟩ := mixK_pt w ma mb L.m L.mm
      obtain ⟨p', p1', _, p2'⟩ := mixK_pt w pa' pb' L.p L.pp
      obtain ⟨m', m1', _, m2'⟩ := mixK_pt w ma' mb' L.m L.mm
      have lo := mixK_lo w ma mb L.m L.mm ma' mb' L.m L.mm (mb0 _) la lb m1 m1'
      have eF : ddCh v u cs i = ⟨p', m'⟩ := chF_mix hn h5 ⟨a0, a1⟩ ⟨b0, b1⟩ p1' m1'
      rw [ltF_mix hn h5 ⟨a0, a1⟩ ⟨b0, b1⟩ p1 m1, eF]
      have w0 := q_le.2 w.1; have w1 := q_le.2 w.2
      rw [zq] at w0; rw [one_q] at w1
      have P1 := p2 f g fm gm
      have P2 := p2' d e dm em
      have P3 := m2' x y xm ym
      generalize (n.f 15).q = W at *
      have W1 : 0 ≤ 1 - W := by grind
      have q1 := Rat.mul_nonneg W1 x0
      have q2 := Rat.mul_nonneg w0 y0
      have q3 := Rat.mul_nonneg W1 (show 0 ≤ 1 - x by grind)
      have q4 := Rat.mul_nonneg w0 (show 0 ≤ 1 - y by grind)
      have q5 := Rat.mul_nonneg W1 f0
      have q6 := Rat.mul_nonneg w0 g0
      have q7 := Rat.mul_nonneg W1 d0
      have q8 := Rat.mul_nonneg w0 e0
      refine ⟨⟨_, _, by grind, by grind, fun h => ?_, P1, P2⟩, lo, _, by grind, by grind, P3⟩
      rcases (by grind : 0 < (1 - W) * f ∨ 0 < W * g) with h1 | h1
      · have := pos_of W1 f0 h1
        have := Rat.mul_pos this.1 (fd this.2)
        grind
      · have := pos_of w0 g0 h1
        have := Rat.mul_pos this.1 (ge this.2)
        grind
    · by_cases h6 : n.k = 6
      · obtain ⟨a0, a1⟩ := okNd_coat hnd h6
        obtain ⟨c1, ct⟩ := okNd_coatf hnd h6
        have hw : z64.k ≤ (n.f (3 + k)).k ∧ (n.f (3 + k)).k ≤ one64.k := ct (3 + k) (by rcases (by omega : k = 0 ∨ k = 1 ∨ k = 2) with rfl | rfl | rfl <;> decide)
        obtain ⟨_, pa, ma⟩ := hE n.a.toNat (by omega)
        obtain ⟨_, pa', ma'⟩ := hC n.a.toNat (by omega)
        obtain ⟨⟨f, d, f0, d0, fd, fm, dm⟩, la, X, x0, x1, xm⟩ := ih n.a.toNat (by omega) (by omega)
        have L := lv_ok (i := i - 1) (by omega)
        have pa' := Pb_le (i := n.a.toNat) (j := i - 1) (by omega) (by omega) pa'
        have ma' := Mb_le (i := n.a.toNat) (j := i - 1) (by omega) (by omega) ma'
        have pa := Pb_le (i := n.a.toNat) (j := i - 1) (by omega) (by omega) pa
        have ma := Mb_le (i := n.a.toNat) (j := i - 1) (by omega) (by omega) ma
        obtain ⟨fi, i1, i2⟩ := fd_all hcv (bn_of c1)
        obtain ⟨fo, o1, o2⟩ := fd_all hcu (bn_of c1)
        obtain ⟨s, h, x, y, F, q, t, z, r, O, bf, br, bs, bh, bx, by', bq, bt, bz⟩ := ov_ok (j := i - 1) (by omega) i2 o2 hw pa ma
        obtain ⟨X1, X1e, _⟩ := by_in bs pa' L.p
        obtain ⟨Y1, Y1e, bY⟩ := by_in bs ma' L.m
        obtain ⟨Z1, Z1e, _⟩ := ad_in o2.box bY L.om
        have eF : ddCh v u cs i = ⟨X1, Z1⟩ := chF_coat hn h6 ⟨a0, a1⟩ o1 O.e1 X1e Y1e Z1e
        rw [ltF_coat hn h6 ⟨a0, a1⟩ i1 o1 O, eF]
        have mi : Mem fi fi.lo.q := ⟨Rat.le_refl, rt_le i2.rt⟩
        have mo : Mem fo fo.lo.q := ⟨Rat.le_refl, rt_le o2.rt⟩
        have ms := sub_pt O.e1 one_mem' mo
        have P1 := mul_pt O.e5 (mul_pt O.e4 (mul_pt O.e3 (sub_pt O.e2 one_mem' mi) ms) (pt_mem _)) fm
        have P2 := mul_pt X1e ms dm
        have P3 := add_pt Z1e mo (mul_pt Y1e ms xm)
        have o0 := q_le.2 o2.lo; have o1q := q_le.2 (Int.le_trans (of_decide_eq_true o2.rt) o2.hi)
        have i0 := q_le.2 i2.lo; have i1q := q_le.2 (Int.le_trans (of_decide_eq_true i2.rt) i2.hi)
        have w0 := q_le.2 hw.1; have w1 := q_le.2 hw.2
        rw [zq] at o0 i0 w0
        rw [one_q] at o1q i1q w1
        have s0 := in0 bs bz10
        have s1 := q_le.2 (show s.hi.k ≤ one64.k from bs.2.1)
        rw [one_q] at s1
        have sr := in_rt bs
        have lo : r.lo.q ≤ Z1.lo.q := by
          refine add_lo O.e9 Z1e Rat.le_refl (mul_lo O.e8 Y1e (in0 bt bz10) (in0 ma (mb0 _)) ?_ la sr (in_rt ma'))
          have ft : AllR t (q.lo.q * (n.f (3 + k)).q) (q.lo.q * (n.f (3 + k)).q) (q.hi.q * (n.f (3 + k)).q) (q.hi.q * (n.f (3 + k)).q) := mul_f O.e7
          have fq : Mem q (s.lo.q * s.lo.q) := sqr_pt O.e6 ⟨Rat.le_refl, sr⟩
          have t1 := ft.lo.1
          have q1 := fq.lo
          have q0 := in0 bq bz10
          generalize (n.f (3 + k)).q = W at *
          generalize s.lo.q = S at *
          have e1 := Rat.mul_nonneg q0 (show 0 ≤ 1 - W by grind)
          have e2 := Rat.mul_nonneg s0 (show 0 ≤ 1 - S by grind)
          grind
        generalize (n.f (3 + k)).q = W at *
        generalize fo.lo.q = o at *
        generalize fi.lo.q = ii at *
        have a0 : 0 ≤ 1 - o := by grind
        have b0 : 0 ≤ 1 - ii := by grind
        have c0 : 0 ≤ (1 - ii) * (1 - o) := Rat.mul_nonneg b0 a0
        have d1 := Rat.mul_nonneg c0 w0
        refine ⟨⟨_, _, Rat.mul_nonneg d1 f0, Rat.mul_nonneg a0 d0, fun hp => ?_, P1, P2⟩, lo, _, ?_, ?_, P3⟩
        · have h1 := pos_of d1 f0 hp
          have h2 := pos_of c0 w0 h1.1
          have h3 := pos_of b0 a0 h2.1
          exact Rat.mul_pos h3.2 (fd h1.2)
        · have p1 := Rat.mul_nonneg a0 x0
          grind
        · have p1 := Rat.mul_nonneg a0 (show 0 ≤ 1 - X by grind)
          grind
      · obtain ⟨d, d1, d2, _⟩ := leaf_val hnd h5 h6 hv hu hk
        obtain ⟨d', d1', d0', d2', _⟩ := leaf_den hnd h5 h6 hv hu
        have eF : ddCh v u cs i = ⟨d', Ch.zero.m⟩ := chF_leaf hn h5 h6 d1'
        rw [ltF_leaf hn h5 h6 d1, eF]
        have dp := q_lt.2 d0'
        rw [zq] at dp
        exact ⟨⟨d.lo.q, d'.lo.q, in0 d2 (pb0 0), Rat.le_of_lt dp, fun _ => dp, ⟨Rat.le_refl, in_rt d2⟩, ⟨Rat.le_refl, in_rt d2'⟩⟩, Rat.le_refl, 0, Rat.le_refl, by decide, bZ_mem bZ_0⟩
end
end Go.Proofs.YtgjohjgmlleebaaGreat
namespace Go.Proofs.YtgjohjgmlleebaaGreat
set_option linter.all false
open Go.RowKit Bu Rx
section
variable (W : Nlb) (pc : List SV) (n : Nat) (u : U6) (i : Int) (x : Nat → SV)
end
end Go.Proofs.YtgjohjgmlleebaaGreat
namespace Go.Proofs.YtgjohjgmlleebaaGreat
set_option linter.all false
open Go.RowKit Bu Rx
theorem eto_ok {cs : List SV} {len : Nat} (h : okPg cs len = true) (hl : cs.length = len * 19) (hlen : len ≤ 20) {x y z r s t : F} (hx : N1 x) (hy : N1 y) (hz : 1 / 64 ≤ z.q ∧ z.q ≤ 1) (hr : N1 r) (hs : N1 s) (ht : 1 / 64 ≤ t.q ∧ t.q ≤ 1) : ObsOk (etO ER (unV KkR) unB cs len x y z r s t) := by
  have K := okPg_ok h
  have hv : OneP (unV KkR x y z) := un_ok hx hy hz.1 hz.2
  have hu : OneP (unV KkR r s t) := un_ok hr hs ht.1 ht.2
  have hB : evB NeR (unV KkR x y z) (unV KkR r s t) cs len = true := evs_all hv hu K hlen
  have up : ∀ {a : F}, 1 / 64 ≤ a.q → decide (a.k ≤ z64.k) = false := fun {a} h0 => decide_eq_false fun h => by
    have h2 := q_le.2 h
    have h3 : z64.q = 0 := zero0_q
    rw [h3] at h2
    grind
  exact ob_a (ob_c (decide_eq_true hl) (ob_c h (ob_c hB (ob_a (one_dir hu) (one_dir hv)))))
    (ob_c (up ht.1) (ob_c (up hz.1) (ob_c (un_B hr hs ht.1 ht.2) (ob_c (un_B hx hy hz.1 hz.2) (ob_c h ob_n)))))
end Go.Proofs.YtgjohjgmlleebaaGreat
namespace Go.Proofs.YtgjohjgmlleebaaGreat
set_option linter.all false
open Go.RowKit Bu Rx
noncomputable def WdR : Nlb := ⟨NprR, fun cs len => prgC NprR (prU cs len) (prK len), prInB NprR, ER, unV KkR, unB, meetsB⟩
theorem ior_d : NprR.p minIor_ maxIor_ = true := by decide +kernel
theorem oracleLd : OracleOk Tryz.prog (OLd WdR DR) := .cons (eiO_ok (prG oraclePr ior_d rfl) (pzG oraclePr rfl)) (.cons bwG.of (.cons attK.of (.cons etK.of (.cons (rgtG3 rfl).of (.cons awake22G.of (.nil _))))))
theorem ddCh1_R (pc : List SV) (n : Nat) (u : U6) : ddCh1 WdR DR pc n u = ddCh (twA (unV KkR) bwF u) (twB (unV KkR) bwF u) ((pc.drop 0).take (n * 19)) (n - 1) := rfl
theorem ddLt_R (pc : List SV) (n : Nat) (u : U6) (k : Nat) : ddLt WdR pc n u k = ltF NeR (twA (unV KkR) bwF u) (twB (unV KkR) bwF u) ((pc.drop 0).take (n * 19)) k (n - 1) := rfl
theorem dd_ok {pc : List SV} {n : Nat} {u : U6} (hl : pc.length = n * 19) (hok : okPg pc n = true) (hn : n ≤ 8) (hu : u.ok = true) : DdOk WdR DR pc n u := by
  have hP : (pc.drop 0).take (n * 19) = pc := by rw [List.drop_zero, ← hl, List.take_length]
  obtain ⟨k0, k1, k2, k3, k4, k5⟩ := u6_in hu
  have hv : OneP (twA (unV KkR) bwF u) := twP _ _ _
  have ho : OneP (twB (unV KkR) bwF u) := twP _ _ _
  have K := okPg_ok hok
  have h1 := K.lo
  have hcu := bzz_bz1 (one_box ho).2.2
  have zq : z64.q = 0 := zero0_q
  obtain ⟨_, cp, cm⟩ := chs_ok hcu K (by omega) (lfs_den K hv ho) (n - 1) (by omega)
  have cp' : InB (ddCh (twA (unV KkR) bwF u) (twB (unV KkR) bwF u) pc (n - 1)).p (Pb (n - 1)) := cp
  have cm' : InB (ddCh (twA (unV KkR) bwF u) (twB (unV KkR) bwF u) pc (n - 1)).m (Mb (n - 1)) := cm
  constructor
  · unfold ddO4
    rw [ddCh1_R, hP]
    obtain ⟨_, _, x, x0, x1, xm⟩ := dd_node hv ho K (by omega) (k := 0) (by omega) (n - 1) (by omega)
    have q1 := cp'.1
    have q2 := cm'.1
    rw [Pb_lo] at q1
    rw [Mb_lo] at q2
    generalize ddCh (twA (unV KkR) bwF u) (twB (unV KkR) bwF u) pc (n - 1) = c at *
    refine ob_a (ob_c (decide_eq_false ?_) (ob_c (decide_eq_false (by omega)) (ob_c (decide_eq_false (by omega)) (ob_c hok ob_n)))) (ob_a (eto_ok hok hl (by omega) bwN1 bwN1 bwN2 bwN1 bwN1 bwN2) (ob_a (at_ok hok hl (by omega)) (ob_a (dirU_ok k3 k4 k5) (dirU_ok k0 k1 k2))))
    intro h
    have h2 := q_lt.2 h
    rw [one_q] at h2
    exact Rat.not_lt.2 (Rat.le_trans xm.1 x1) h2
  · intro k hk
    rw [ddCh1_R, ddLt_R, hP]
    obtain ⟨⟨f, d, f0, d0, fd, fm, dm⟩, lo, _⟩ := dd_node hv ho K (by omega) hk (n - 1) (by omega)
    have rm := in_rt cm'
    generalize ddCh (twA (unV KkR) bwF u) (twB (unV KkR) bwF u) pc (n - 1) = c at *
    refine ⟨q_le.1 (Rat.le_trans lo rm), fun h => q_lt.1 (Std.lt_of_lt_of_le (q_lt.2 h) lo), fun h => q_lt.1 ?_⟩
    have h2 := q_lt.2 h
    rw [zq] at h2 ⊢
    have h3 := fd (Std.lt_of_lt_of_le h2 fm.1)
    exact Std.lt_of_lt_of_le h3 dm.2
theorem densDrawn_some {el : TypeId} {z : Nat × Nat} {cells : List SV} {off len cap : Nat} {u : U6} {m : Nms} {w : World} {vs : List Value} (hM : MemAt m w [⟨el, cells, .ro z⟩]) (hvs : dens m [.ssl 0 off len cap, u.sv] = some vs)
    (hc : len ≤ cap) (hb : prInB NprR ((cells.drop off).take (len * 8)) len = true) (hu : u.ok = true) :
    Calls Tryz.prog 14 vs.toArray w fun e w' => e = .returned (.bool true) ∧ Below w.heap.size w w' := by
  obtain ⟨a, b⟩ := prog_ok hb
  exact dd_calls oracleLd hM hvs hc hb (dd_ok (prgC_len _ _ _) a (by omega) hu)
theorem densDrawn_none {u : U6} {w : World} {vs : List Value} (hvs : dens Nms.no [.o (.slice none 0 0), u.sv] = some vs) (hu : u.ok = true) :
    Calls Tryz.prog 14 vs.toArray w fun e w' => e = .returned (.bool true) ∧ Below w.heap.size w w' := by
  obtain ⟨a, b⟩ := prog_ok (cs := []) (len := 0) rfl
  exact dd_nil oracleLd hvs (dd_ok (prgC_len _ _ _) a (by omega) hu)
end Go.Proofs.YtgjohjgmlleebaaGreat
