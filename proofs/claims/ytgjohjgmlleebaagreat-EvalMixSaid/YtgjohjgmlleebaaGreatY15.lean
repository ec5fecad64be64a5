/- EvalBack, plain: turned triples; both ways the same; mirrors. burnishlaw21.EvalBack, proved. -/
import Derived.Test.YtgjohjgmlleebaaGreatY14
namespace Bu
set_option linter.all false
open Rx Go
def unZ (K : Kk) (x y z : F) : I × Int :=
  let a := K.num 0 x
  let b := K.num a.2 y
  let c := K.num b.2 z
  let qx := K.sqr c.2 a.1
  let qy := K.sqr qx.2 b.1
  let s1 := K.add qy.2 qx.1 qy.1
  let qz := K.sqr s1.2 c.1
  let s2 := K.add qz.2 s1.1 qz.1
  let nn := K.sqrt s2.2 s2.1
  let dx := K.div nn.2 a.1 nn.1
  let dy := K.div dx.2 b.1 nn.1
  K.div dy.2 c.1 nn.1
theorem un_unf (K : Kk) (x y z : F) : (unE K x y z).2 = (unZ K x y z).2 ∧ (unV K x y z).z = withI (unZ K x y z).1 := ⟨by kernel_rfl, by kernel_rfl⟩
theorem cAdd_comm (e : Int) (a b : I) : KkR.add e a b = KkR.add e b a := by
  show cAdd dAdd e a b = cAdd dAdd e b a
  unfold cAdd
  rw [dAdd_comm false a.lo b.lo, dAdd_comm true a.hi b.hi, Bool.and_comm]
theorem unZ_0 {x y z : F} (h : (unZ KkR x y z).2 = 0) : unZ KkR x y z = KkR.div 0 (pt z) (KkR.sqrt 0 (KkR.add 0 (KkR.add 0 (KkR.sqr 0 (pt x)).1 (KkR.sqr 0 (pt y)).1).1 (KkR.sqr 0 (pt z)).1).1).1 := by
  unfold unZ at h ⊢
  simp only [numF_] at h ⊢
  have a1 := (div_0 h).1
  have a2 := (div_0 a1).1
  have a3 := (div_0 a2).1
  have a4 := (sqrt_0 a3).1
  have a5 := (add_0 a4).1
  have a6 := (sqr_0 a5).1
  have a7 := (add_0 a6).1
  have a8 := (sqr_0 a7).1
  rw [a1, a4, a5, a6, a7, a8]
theorem un_turn {x y z : F} (hx : N1 x) (hy : N1 y) (z0 : 1 / 64 ≤ z.q) (z1 : z.q ≤ 1) : (unV KkR y x z).z = (unV KkR x y z).z := by
  have h1 := (un_okE hx hy z0 z1).1
  have h2 := (un_okE hy hx z0 z1).1
  rw [(un_unf KkR x y z).1] at h1
  rw [(un_unf KkR y x z).1] at h2
  rw [(un_unf KkR x y z).2, (un_unf KkR y x z).2, unZ_0 h1, unZ_0 h2, cAdd_comm 0 (KkR.sqr 0 (pt y)).1]
theorem meets_mem {a b : I} (h : meetsB a b = true) (ha : a.lo.k ≤ a.hi.k) (hb : b.lo.k ≤ b.hi.k) : ∃ x, Mem a x ∧ Mem b x := by
  unfold meetsB at h
  rw [Bool.and_eq_true, decide_eq_true_eq, decide_eq_true_eq] at h
  have h1 := q_le.2 h.1; have h2 := q_le.2 h.2; have h3 := q_le.2 ha; have h4 := q_le.2 hb
  rcases Rat.le_total (a := a.lo.q) (b := b.lo.q) with k | k
  · exact ⟨b.lo.q, ⟨k, h2⟩, ⟨Rat.le_refl, h4⟩⟩
  · exact ⟨a.lo.q, ⟨Rat.le_refl, h3⟩, ⟨k, h1⟩⟩
theorem sqr_pt {a r : I} {x : Rat} (h : KkR.sqr 0 a = (r, 0)) (hx : Mem a x) : Mem r (x * x) := by
  have st : (stepK KkR (.sqr 0) [a] 0).2 = 0 := by show (KkR.sqr 0 a).2 = 0; rw [h]
  have f := (step_fact st).2.2
  have e : (stepK KkR (.sqr 0) [a] 0).1 = r := by show (KkR.sqr 0 a).1 = r; rw [h]
  rw [e] at f
  exact p_sqr f hx
end Bu
namespace Go.Proofs.YtgjohjgmlleebaaGreat
set_option linter.all false
open Go.RowKit Bu Rx
theorem ltF_mix {v u : V3} {cs : List SV} {k i : Nat} {n : Nd} {p m : I} (hn : ndR cs (i * 19) = n) (h5 : n.k = 5) (ha : 0 ≤ n.a ∧ n.a < i) (hb : 0 ≤ n.b ∧ n.b < i)
    (hp : mixK KkR 0 (n.f 15) (ltF NeR v u cs k n.a.toNat).p (ltF NeR v u cs k n.b.toNat).p = (p, 0)) (hm : mixK KkR 0 (n.f 15) (ltF NeR v u cs k n.a.toNat).m (ltF NeR v u cs k n.b.toNat).m = (m, 0)) : ltF NeR v u cs k i = ⟨p, m⟩ := by
  show (evN NeR v u k (fun j => (chL (allE NeR v u cs k) i).getD j Ch.zero) (ndR cs (i * 19))).1 = _
  rw [hn]
  unfold evN
  rw [decide_eq_true h5, cond_true]
  show (mixC KkR (n.f 15) ((chL (allE NeR v u cs k) i).getD n.a.toNat Ch.zero) ((chL (allE NeR v u cs k) i).getD n.b.toNat Ch.zero)).1 = _
  have ga : (chL (allE NeR v u cs k) i).getD n.a.toNat Ch.zero = ltF NeR v u cs k n.a.toNat := chL_get _ (show n.a.toNat < i by omega)
  have gb : (chL (allE NeR v u cs k) i).getD n.b.toNat Ch.zero = ltF NeR v u cs k n.b.toNat := chL_get _ (show n.b.toNat < i by omega)
  rw [ga, gb, mixC_st hp hm]
section
variable {v u v' u' : V3} (hv : OneP v) (hu : OneP u) (hv' : OneP v') (hu' : OneP u') {cs : List SV} {len : Nat} (K : OkPg cs len) (hlen : len ≤ 20) {k : Nat} (hk : k < 3)
include hv hu K hlen hk
/-- what is sent meets what is sent back -/
theorem ev_both : ∀ i, i < len → ∃ x, Mem (ltF NeR v u cs k i).p x ∧ Mem (ltF NeR u v cs k i).p x := by
  have hcv := bzz_bz1 (one_box hv).2.2
  have hcu := bzz_bz1 (one_box hu).2.2
  have hw3 := fun (n : Nd) (i : Int) (hnd : okNd n i = true) (h6 : n.k = 6) => (okNd_coatf hnd h6).2 (3 + k) (by rcases (by omega : k = 0 ∨ k = 1 ∨ k = 2) with rfl | rfl | rfl <;> decide)
  intro i
  induction i using Nat.strongRecOn with
  | _ i ih =>
    intro hi
    have hnd := K.nd i hi
    generalize hn : ndR cs (i * 19) = n at hnd
    by_cases h5 : n.k = 5
    · obtain ⟨⟨a0, a1⟩, b0, b1⟩ := okNd_mix hnd h5
      have w := okNd_mixw hnd h5
      obtain ⟨_, pa, ma⟩ := evs_ok hv hu K hlen hk n.a.toNat (by omega)
      obtain ⟨_, pb, mb⟩ := evs_ok hv hu K hlen hk n.b.toNat (by omega)
      obtain ⟨_, pa', ma'⟩ := evs_ok hu hv K hlen hk n.a.toNat (by omega)
      obtain ⟨_, pb', mb'⟩ := evs_ok hu hv K hlen hk n.b.toNat (by omega)
      obtain ⟨x, x1, x2⟩ := ih n.a.toNat (by omega) (by omega)
      obtain ⟨y, y1, y2⟩ := ih n.b.toNat (by omega) (by omega)
      have L := lv_ok (i := i - 1) (by omega)
      obtain ⟨p, p1, _, p2⟩ := mixK_pt w (Pb_le (i := n.a.toNat) (j := i - 1) (by omega) (by omega) pa) (Pb_le (i := n.b.toNat) (j := i - 1) (by omega) (by omega) pb) L.p L.pp
      obtain ⟨m, m1, _⟩ := mixK_in w (Mb_le (i := n.a.toNat) (j := i - 1) (by omega) (by omega) ma) (Mb_le (i := n.b.toNat) (j := i - 1) (by omega) (by omega) mb) L.m L.mm
      obtain ⟨p', p1', _, p2'⟩ := mixK_pt w (Pb_le (i := n.a.toNat) (j := i - 1) (by omega) (by omega) pa') (Pb_le (i := n.b.toNat) (j := i - 1) (by omega) (by omega) pb') L.p L.pp
      obtain ⟨m', m1', _⟩ := mixK_in w (Mb_le (i := n.a.toNat) (j := i - 1) (by omega) (by omega) ma') (Mb_le (i := n.b.toNat) (j := i - 1) (by omega) (by omega) mb') L.m L.mm
      rw [ltF_mix hn h5 ⟨a0, a1⟩ ⟨b0, b1⟩ p1 m1, ltF_mix hn h5 ⟨a0, a1⟩ ⟨b0, b1⟩ p1' m1']
      exact ⟨_, p2 x y x1 y1, p2' x y x2 y2⟩
    · by_cases h6 : n.k = 6
      · obtain ⟨a0, a1⟩ := okNd_coat hnd h6
        obtain ⟨c1, _⟩ := okNd_coatf hnd h6
        have hw := hw3 n i hnd h6
        obtain ⟨_, pa, ma⟩ := evs_ok hv hu K hlen hk n.a.toNat (by omega)
        obtain ⟨_, pa', ma'⟩ := evs_ok hu hv K hlen hk n.a.toNat (by omega)
        obtain ⟨X, x1, x2⟩ := ih n.a.toNat (by omega) (by omega)
        obtain ⟨fi, i1, i2⟩ := fd_all hcv (bn_of c1)
        obtain ⟨fo, o1, o2⟩ := fd_all hcu (bn_of c1)
        obtain ⟨s, h, x, y, f, q, t, z, r, O, _⟩ := ov_ok (j := i - 1) (by omega) i2 o2 hw (Pb_le (i := n.a.toNat) (j := i - 1) (by omega) (by omega) pa) (Mb_le (i := n.a.toNat) (j := i - 1) (by omega) (by omega) ma)
        obtain ⟨s', h', x', y', f', q', t', z', r', O', _⟩ := ov_ok (j := i - 1) (by omega) o2 i2 hw (Pb_le (i := n.a.toNat) (j := i - 1) (by omega) (by omega) pa') (Mb_le (i := n.a.toNat) (j := i - 1) (by omega) (by omega) ma')
        rw [ltF_coat hn h6 ⟨a0, a1⟩ i1 o1 O, ltF_coat hn h6 ⟨a0, a1⟩ o1 i1 O']
        have mi : Mem fi fi.lo.q := ⟨Rat.le_refl, rt_le i2.rt⟩
        have mo : Mem fo fo.lo.q := ⟨Rat.le_refl, rt_le o2.rt⟩
        have e1 := mul_pt O.e5 (mul_pt O.e4 (mul_pt O.e3 (sub_pt O.e2 one_mem' mi) (sub_pt O.e1 one_mem' mo)) (pt_mem _)) x1
        have e2 := mul_pt O'.e5 (mul_pt O'.e4 (mul_pt O'.e3 (sub_pt O'.e2 one_mem' mo) (sub_pt O'.e1 one_mem' mi)) (pt_mem _)) x2
        refine ⟨_, e1, ?_⟩
        rw [Rat.mul_comm (1 - fi.lo.q)]
        exact e2
      · obtain ⟨d, d1, d2, _⟩ := leaf_val hnd h5 h6 hv hu hk
        obtain ⟨d', d1', d2', _⟩ := leaf_val hnd h5 h6 hu hv hk
        rw [ltF_leaf hn h5 h6 d1, ltF_leaf hn h5 h6 d1']
        obtain ⟨a, b, v1, v2, v3, _⟩ := val_ok (leaf_lf hnd h5 h6 hv hu (k : Int) (by omega) (by omega))
        have ea : (d, (0 : Int)) = (a, 0) := d1.symm.trans v1
        have eb : (d', (0 : Int)) = (b, 0) := d1'.symm.trans v2
        rw [(Prod.mk.inj ea).1, (Prod.mk.inj eb).1]
        rw [(Prod.mk.inj ea).1] at d2
        rw [(Prod.mk.inj eb).1] at d2'
        exact meets_mem v3 d2.2.2 d2'.2.2
include hv' hu'
/-- what is sent back as a mirror hangs on the height of out alone -/
theorem ev_mu (hz : u.z = u'.z) : ∀ i, i < len → (ltF NeR v u cs k i).m = (ltF NeR v' u' cs k i).m ∧ ∃ x : Rat, 0 ≤ x ∧ x ≤ 1 ∧ Mem (ltF NeR v u cs k i).m x := by
  have hcv := bzz_bz1 (one_box hv).2.2
  have hcv' := bzz_bz1 (one_box hv').2.2
  have hcu := bzz_bz1 (one_box hu).2.2
  have hw3 := fun (n : Nd) (i : Int) (hnd : okNd n i = true) (h6 : n.k = 6) => (okNd_coatf hnd h6).2 (3 + k) (by rcases (by omega : k = 0 ∨ k = 1 ∨ k = 2) with rfl | rfl | rfl <;> decide)
  have zq : z64.q = 0 := zero0_q
  intro i
  induction i using Nat.strongRecOn with
  | _ i ih =>
    intro hi
    have hnd := K.nd i hi
    generalize hn : ndR cs (i * 19) = n at hnd
    by_cases h5 : n.k = 5
    · obtain ⟨⟨a0, a1⟩, b0, b1⟩ := okNd_mix hnd h5
      have w := okNd_mixw hnd h5
      obtain ⟨_, pa, ma⟩ := evs_ok hv hu K hlen hk n.a.toNat (by omega)
      obtain ⟨_, pb, mb⟩ := evs_ok hv hu K hlen hk n.b.toNat (by omega)
      obtain ⟨_, pa', _⟩ := evs_ok hv' hu' K hlen hk n.a.toNat (by omega)
      obtain ⟨_, pb', _⟩ := evs_ok hv' hu' K hlen hk n.b.toNat (by omega)
      obtain ⟨ea, x, x0, x1, xm⟩ := ih n.a.toNat (by omega) (by omega)
      obtain ⟨eb, y, y0, y1, ym⟩ := ih n.b.toNat (by omega) (by omega)
      have L := lv_ok (i := i - 1) (by omega)
      obtain ⟨p, p1, _⟩ := mixK_in w (Pb_le (i := n.a.toNat) (j := i - 1) (by omega) (by omega) pa) (Pb_le (i := n.b.toNat) (j := i - 1) (by omega) (by omega) pb) L.p L.pp
      obtain ⟨p', p1', _⟩ := mixK_in w (Pb_le (i := n.a.toNat) (j := i - 1) (by omega) (by omega) pa') (Pb_le (i := n.b.toNat) (j := i - 1) (by omega) (by omega) pb') L.p L.pp
      obtain ⟨m, m1, _, m2⟩ := mixK_pt w (Mb_le (i := n.a.toNat) (j := i - 1) (by omega) (by omega) ma) (Mb_le (i := n.b.toNat) (j := i - 1) (by omega) (by omega) mb) L.m L.mm
      have m1' := m1
      rw [ea, eb] at m1'
      rw [ltF_mix hn h5 ⟨a0, a1⟩ ⟨b0, b1⟩ p1 m1, ltF_mix hn h5 ⟨a0, a1⟩ ⟨b0, b1⟩ p1' m1']
      have w0 := q_le.2 w.1; have w1 := q_le.2 w.2
      rw [zq] at w0; rw [one_q] at w1
      generalize (n.f 15).q = W at *
      have p1 := Rat.mul_nonneg (show 0 ≤ 1 - W by grind) x0
      have p2 := Rat.mul_nonneg w0 y0
      have p3 := Rat.mul_nonneg (show 0 ≤ 1 - W by grind) (show 0 ≤ 1 - x by grind)
      have p4 := Rat.mul_nonneg w0 (show 0 ≤ 1 - y by grind)
      exact ⟨rfl, _, by grind, by grind, m2 x y xm ym⟩
    · by_cases h6 : n.k = 6
      · obtain ⟨a0, a1⟩ := okNd_coat hnd h6
        obtain ⟨c1, _⟩ := okNd_coatf hnd h6
        have hw := hw3 n i hnd h6
        obtain ⟨_, pa, ma⟩ := evs_ok hv hu K hlen hk n.a.toNat (by omega)
        obtain ⟨_, pa', ma'⟩ := evs_ok hv' hu' K hlen hk n.a.toNat (by omega)
        obtain ⟨ea, X, x0, x1, xm⟩ := ih n.a.toNat (by omega) (by omega)
        obtain ⟨fi, i1, i2⟩ := fd_all hcv (bn_of c1)
        obtain ⟨fi', i1', i2'⟩ := fd_all hcv' (bn_of c1)
        obtain ⟨fo, o1, o2⟩ := fd_all hcu (bn_of c1)
        have o1' := o1
        rw [hz] at o1'
        obtain ⟨s, h, x, y, f, q, t, z, r, O, _⟩ := ov_ok (j := i - 1) (by omega) i2 o2 hw (Pb_le (i := n.a.toNat) (j := i - 1) (by omega) (by omega) pa) (Mb_le (i := n.a.toNat) (j := i - 1) (by omega) (by omega) ma)
        obtain ⟨s', h', x', y', f', q', t', z', r', O', _⟩ := ov_ok (j := i - 1) (by omega) i2' o2 hw (Pb_le (i := n.a.toNat) (j := i - 1) (by omega) (by omega) pa') (Mb_le (i := n.a.toNat) (j := i - 1) (by omega) (by omega) ma')
        rw [ltF_coat hn h6 ⟨a0, a1⟩ i1 o1 O, ltF_coat hn h6 ⟨a0, a1⟩ i1' o1' O']
        have es : s = s' := (Prod.mk.inj (O.e1.symm.trans O'.e1)).1
        subst es
        have eq : q = q' := (Prod.mk.inj (O.e6.symm.trans O'.e6)).1
        subst eq
        have et : t = t' := (Prod.mk.inj (O.e7.symm.trans O'.e7)).1
        subst et
        have hz8 := O.e8
        rw [ea] at hz8
        have ez : z = z' := (Prod.mk.inj (hz8.symm.trans O'.e8)).1
        subst ez
        have er : r = r' := (Prod.mk.inj (O.e9.symm.trans O'.e9)).1
        refine ⟨er, ?_⟩
        have mo : Mem fo fo.lo.q := ⟨Rat.le_refl, rt_le o2.rt⟩
        have m1 := add_pt O.e9 mo (mul_pt O.e8 (mul_pt O.e7 (sqr_pt O.e6 (sub_pt O.e1 one_mem' mo)) (pt_mem _)) xm)
        have o0 := q_le.2 o2.lo; have o1q := q_le.2 (Int.le_trans (of_decide_eq_true o2.rt) o2.hi)
        have w0 := q_le.2 hw.1; have w1 := q_le.2 hw.2
        rw [zq] at o0 w0
        rw [one_q] at o1q w1
        refine ⟨_, ?_, ?_, m1⟩
        · have p1 := Rat.mul_nonneg (Rat.mul_nonneg (Rat.mul_nonneg (show 0 ≤ 1 - fo.lo.q by grind) (show 0 ≤ 1 - fo.lo.q by grind)) w0) x0
          grind
        · generalize (n.f (3 + k)).q = W at *
          generalize fo.lo.q = o at *
          have a0 : 0 ≤ 1 - o := by grind
          have p1 := Rat.mul_nonneg a0 a0
          have p2 := Rat.mul_nonneg o0 a0
          generalize hA : (1 - o) * (1 - o) = A at *
          have b0 : A ≤ 1 - o := by grind
          have p3 := Rat.mul_nonneg p1 w0
          have p4 := Rat.mul_nonneg p1 (show 0 ≤ 1 - W by grind)
          have p5 := Rat.mul_nonneg p3 (show 0 ≤ 1 - X by grind)
          grind
      · obtain ⟨d, d1, _⟩ := leaf_val hnd h5 h6 hv hu hk
        obtain ⟨d', d1', _⟩ := leaf_val hnd h5 h6 hv' hu' hk
        rw [ltF_leaf hn h5 h6 d1, ltF_leaf hn h5 h6 d1']
        exact ⟨rfl, 0, Rat.le_refl, by decide, bZ_mem bZ_0⟩
end
end Go.Proofs.YtgjohjgmlleebaaGreat
namespace Go.Proofs.YtgjohjgmlleebaaGreat
set_option linter.all false
open Go.RowKit Bu Rx
theorem eto_ok {cs : List SV} {len : Nat} (h : okPg cs len = true) (hl : cs.length = len * 19) (hlen : len ≤ 20) {x y z r s t : F} (hx : N1 x) (hy : N1 y) (hz : 1 / 64 ≤ z.q ∧ z.q ≤ 1) (hr : N1 r) (hs : N1 s) (ht : 1 / 64 ≤ t.q ∧ t.q ≤ 1) : ObsOk (etO ER (unV KkR) unB cs len x y z r s t) := by
  have K := okPg_ok h
  have hv : OneP (unV KkR x y z) := un_ok hx hy hz.1 hz.2
  have hu : OneP (unV KkR r s t) := un_ok hr hs ht.1 ht.2
  have hB : evB NeR (unV KkR x y z) (unV KkR r s t) cs len = true := evs_all hv hu K hlen
  have up : ∀ {a : F}, 1 / 64 ≤ a.q → decide (a.k ≤ z64.k) = false := fun {a} h0 => decide_eq_false fun h => by
    have h2 := q_le.2 h
    have h3 : z64.q = 0 := zero0_q
    rw [h3] at h2
    grind
  exact ob_a (ob_c (decide_eq_true hl) (ob_c h (ob_c hB (ob_a (one_dir hu) (one_dir hv)))))
    (ob_c (up ht.1) (ob_c (up hz.1) (ob_c (un_B hr hs ht.1 ht.2) (ob_c (un_B hx hy hz.1 hz.2) (ob_c h ob_n)))))
theorem ebK_mk {W : Nlb} {pc : List SV} {n : Nat} {u : U6} {b : Bool} {k : Nat} {A B C D : Ch} (hA : ebW W pc n (twA W.un W.N.b u) (twB W.un W.N.b u) k = A) (hB : ebW W pc n (twB W.un W.N.b u) (twA W.un W.N.b u) k = B) (hC : ebW W pc n (twA W.un W.N.b u) (ebV W u b) k = C) (hD : ebW W pc n (twB W.un W.N.b u) (twB W.un W.N.b u) k = D)
    (c1 : eqIv A.m D.m = true) (c2 : W.me A.m C.m = true) (c3 : decide (one64.k < A.m.lo.k) = false) (c4 : decide (A.m.lo.k < z64.k) = false) (c5 : decide (A.p.lo.k < z64.k) = false) (c6 : W.me A.p B.p = true) : ObsOk (ebK W pc n u b k) := by
  unfold ebK
  rw [hA, hB, hC, hD, c1]
  exact ob_c rfl (ob_c c2 (ob_c c3 (ob_c c4 (ob_c c5 (ob_c c6 ob_n)))))
noncomputable def WbR : Nlb := ⟨NprR, fun cs len => prgC NprR (prU cs len) (prK len), prInB NprR, ER, unV KkR, unB, meetsB⟩
theorem ior_b : NprR.p minIor_ maxIor_ = true := by decide +kernel
theorem oracleLb : OracleOk Tryz.prog (OLb WbR) := .cons (eiO_ok (prG oraclePr ior_b rfl) (pzG oraclePr rfl)) (.cons bwG.of (.cons etK.of (.cons (rgtG3 rfl).of (.cons meetsG.of (.cons awake21G.of (.nil _))))))
theorem ebW_R (pc : List SV) (n : Nat) (v u : V3) (k : Nat) : ebW WbR pc n v u k = ltF NeR v u (ebP pc n) k (n - 1) := rfl
theorem ebV_R (u : U6) (b : Bool) : ebV WbR u b = bif b then unV KkR (bwF mone64 one64 u.a4) (bwF mone64 one64 u.a3) (bwF d64 one64 u.a5) else twB (unV KkR) bwF u := rfl
theorem eb_kk {pc : List SV} {n : Nat} {u : U6} {b : Bool} (hP : ebP pc n = pc) (hok : okPg pc n = true) (hn : n ≤ 8) {k : Nat} (hk : k < 3) : ObsOk (ebK WbR pc n u b k) := by
  have hv : OneP (twA (unV KkR) bwF u) := twP _ _ _
  have ho : OneP (twB (unV KkR) bwF u) := twP _ _ _
  have ho' : OneP (ebV WbR u b) := by rw [ebV_R]; cases b; exact ho; exact un_ok bwN1 bwN1 bwN2.1 bwN2.2
  have hz : (twB (unV KkR) bwF u).z = (ebV WbR u b).z := by
    rw [ebV_R]
    cases b
    · rfl
    · exact (un_turn bwN1 bwN1 bwN2.1 bwN2.2).symm
  have K := okPg_ok hok
  have h1 := K.lo
  obtain ⟨x, x1, x2⟩ := ev_both hv ho K (by omega) hk (n - 1) (by omega)
  obtain ⟨e1, y, y0, y1, ym⟩ := ev_mu hv ho hv ho' K (by omega) hk hz (n - 1) (by omega)
  obtain ⟨e2, _⟩ := ev_mu hv ho ho ho K (by omega) hk rfl (n - 1) (by omega)
  obtain ⟨_, bp, bm⟩ := evs_ok hv ho K (by omega) hk (n - 1) (by omega)
  refine ebK_mk (ebW_R pc n _ _ k) (ebW_R pc n _ _ k) (ebW_R pc n _ _ k) (ebW_R pc n _ _ k) ?_ ?_ ?_ ?_ ?_ ?_ <;> rw [hP]
  · show eqIv (ltF NeR (twA (unV KkR) bwF u) (twB (unV KkR) bwF u) pc k (n - 1)).m (ltF NeR (twB (unV KkR) bwF u) (twB (unV KkR) bwF u) pc k (n - 1)).m = true
    rw [e2]; unfold eqIv; rw [decide_eq_true rfl, decide_eq_true rfl]; rfl
  · show meetsB (ltF NeR (twA (unV KkR) bwF u) (twB (unV KkR) bwF u) pc k (n - 1)).m (ltF NeR (twA (unV KkR) bwF u) (ebV WbR u b) pc k (n - 1)).m = true
    rw [← e1]; exact mem_meets ym ym
  · refine decide_eq_false fun h => ?_
    have h2 := q_lt.2 h
    rw [one_q] at h2
    have h3 : (ltF NeR (twA (unV KkR) bwF u) (twB (unV KkR) bwF u) pc k (n - 1)).m.lo.q ≤ 1 := Rat.le_trans ym.1 y1
    exact Rat.not_lt.2 h3 h2
  · exact decide_eq_false fun h => by
      have h2 : z64.k ≤ (ltF NeR (twA (unV KkR) bwF u) (twB (unV KkR) bwF u) pc k (n - 1)).m.lo.k := bm.1
      exact Int.not_lt.2 h2 h
  · exact decide_eq_false fun h => by
      have h2 : z64.k ≤ (ltF NeR (twA (unV KkR) bwF u) (twB (unV KkR) bwF u) pc k (n - 1)).p.lo.k := bp.1
      exact Int.not_lt.2 h2 h
  · show meetsB (ltF NeR (twA (unV KkR) bwF u) (twB (unV KkR) bwF u) pc k (n - 1)).p (ltF NeR (twB (unV KkR) bwF u) (twA (unV KkR) bwF u) pc k (n - 1)).p = true
    exact mem_meets x1 x2
theorem eb_ok {pc : List SV} {n : Nat} {u : U6} {i : Int} (hl : pc.length = n * 19) (hok : okPg pc n = true) (hn : n ≤ 8) (hu : u.ok = true) : ObsOk (ebO WbR pc n u i (i.tmod 2 == 1)) := by
  have hP : ebP pc n = pc := by unfold ebP; rw [List.drop_zero, ← hl, List.take_length]
  obtain ⟨k0, k1, k2, k3, k4, k5⟩ := u6_in hu
  have et : ∀ {x y z r s t : F}, N1 x → N1 y → 1 / 64 ≤ z.q ∧ z.q ≤ 1 → N1 r → N1 s → 1 / 64 ≤ t.q ∧ t.q ≤ 1 → ObsOk (ebE WbR pc n x y z r s t) := fun hx hy hz hr hs ht => by
    unfold ebE
    rw [hP]
    exact eto_ok hok hl (by omega) hx hy hz hr hs ht
  have ho : WbR.E.o (ebP pc n) n = true := by rw [hP]; exact hok
  have n1 : ∀ {b : Bool} {x y : F}, N1 x → N1 y → N1 (bif b then x else y) := fun {b x y} hx hy => by cases b; exact hy; exact hx
  generalize hb : (i.tmod 2 == 1) = b
  refine ob_a (eb_kk hP hok hn (by omega)) (ob_a (eb_kk hP hok hn (by omega)) (ob_a (eb_kk hP hok hn (by omega)) (ob_c ho (ob_a (et bwN1 bwN1 bwN2 bwN1 bwN1 bwN2) (ob_a (et bwN1 bwN1 bwN2 (n1 bwN1 bwN1) (n1 bwN1 bwN1) bwN2) (ob_a (et bwN1 bwN1 bwN2 bwN1 bwN1 bwN2) (ob_a (et bwN1 bwN1 bwN2 bwN1 bwN1 bwN2) (ob_c hb (ob_a (dirU_ok k3 k4 k5) (dirU_ok k0 k1 k2))))))))))
theorem evalBack_some {el : TypeId} {z : Nat × Nat} {cells : List SV} {off len cap : Nat} {u : U6} {i : Int} {m : Nms} {w : World} {vs : List Value} (hM : MemAt m w [⟨el, cells, .ro z⟩]) (hvs : dens m [.ssl 0 off len cap, u.sv, .si .u8 i] = some vs)
    (hc : len ≤ cap) (hb : prInB NprR ((cells.drop off).take (len * 8)) len = true) (hu : u.ok = true) :
    Calls Tryz.prog 9 vs.toArray w fun e w' => e = .returned (.bool true) ∧ Below w.heap.size w w' := by
  obtain ⟨a, b⟩ := prog_ok hb
  exact eb_calls oracleLb hM hvs hc hb (eb_ok (prgC_len _ _ _) a (by omega) hu)
theorem evalBack_none {u : U6} {i : Int} {w : World} {vs : List Value} (hvs : dens Nms.no [.o (.slice none 0 0), u.sv, .si .u8 i] = some vs) (hu : u.ok = true) :
    Calls Tryz.prog 9 vs.toArray w fun e w' => e = .returned (.bool true) ∧ Below w.heap.size w w' := by
  obtain ⟨a, b⟩ := prog_ok (cs := []) (len := 0) rfl
  exact eb_nil oracleLb hvs (eb_ok (prgC_len _ _ _) a (by omega) hu)
end Go.Proofs.YtgjohjgmlleebaaGreat
