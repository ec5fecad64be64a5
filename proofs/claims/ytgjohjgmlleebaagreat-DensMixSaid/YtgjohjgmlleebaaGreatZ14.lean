/- DensMix, plain. -/
import Derived.Test.YtgjohjgmlleebaaGreatZ13
namespace Bu
set_option linter.all false
open Rx Go
theorem mul_f {a b r : I} (h : KkR.mul 0 a b = (r, 0)) : Fact (.mul 0 1) [a, b] r := by
  have st : (stepK KkR (.mul 0 1) [a, b] 0).2 = 0 := by show (KkR.mul 0 a b).2 = 0; rw [h]
  have f := (step_fact st).2.2
  rwa [show (stepK KkR (.mul 0 1) [a, b] 0).1 = r from by show (KkR.mul 0 a b).1 = r; rw [h]] at f
theorem add_f {a b r : I} (h : KkR.add 0 a b = (r, 0)) : Fact (.add 0 1) [a, b] r := by
  have st : (stepK KkR (.add 0 1) [a, b] 0).2 = 0 := by show (KkR.add 0 a b).2 = 0; rw [h]
  have f := (step_fact st).2.2
  rwa [show (stepK KkR (.add 0 1) [a, b] 0).1 = r from by show (KkR.add 0 a b).1 = r; rw [h]] at f
theorem sub_f {a b r : I} (h : KkR.sub 0 a b = (r, 0)) : Fact (.sub 0 1) [a, b] r := by
  have st : (stepK KkR (.sub 0 1) [a, b] 0).2 = 0 := by show (KkR.sub 0 a b).2 = 0; rw [h]
  have f := (step_fact st).2.2
  rwa [show (stepK KkR (.sub 0 1) [a, b] 0).1 = r from by show (KkR.sub 0 a b).1 = r; rw [h]] at f
theorem mul_pt {a b r : I} {x y : Rat} (h : KkR.mul 0 a b = (r, 0)) (hx : Mem a x) (hy : Mem b y) : Mem r (x * y) := p_mul (mul_f h) hx hy
theorem add_pt {a b r : I} {x y : Rat} (h : KkR.add 0 a b = (r, 0)) (hx : Mem a x) (hy : Mem b y) : Mem r (x + y) := p_add (add_f h) hx hy
theorem sub_pt {a b r : I} {x y : Rat} (h : KkR.sub 0 a b = (r, 0)) (hx : Mem a x) (hy : Mem b y) : Mem r (x - y) := p_sub (sub_f h) hx hy
theorem pt_mem (x : F) : Mem (pt x) x.q := ⟨Rat.le_refl, Rat.le_refl⟩
theorem one_mem' : Mem (pt one64) 1 := by have := pt_mem one64; rwa [one_q] at this
theorem mixK_pt {w : F} {a b A C : I} (hw : z64.k ≤ w.k ∧ w.k ≤ one64.k) (ha : InB a A) (hb : InB b A) (h1 : byE A A = true) (h2 : adE A A C = true) : ∃ r, mixK KkR 0 w a b = (r, 0) ∧ InB r C ∧ ∀ x y, Mem a x → Mem b y → Mem r ((1 - w.q) * x + w.q * y) := by
  obtain ⟨s, e1, b1⟩ := less_in (pt_z1 hw)
  obtain ⟨m1, e2, b2⟩ := by_in b1 ha h1
  obtain ⟨m2, e3, b3⟩ := by_in (pt_z1 hw) hb h1
  obtain ⟨r, e4, b4⟩ := ad_in b2 b3 h2
  exact ⟨r, mixK_st e1 e2 e3 e4, b4, fun x y hx hy => add_pt e4 (mul_pt e2 (sub_pt e1 one_mem' (pt_mem w)) hx) (mul_pt e3 (pt_mem w) hy)⟩
theorem okAt_n {cs : List SV} {i : Nat} {n : Nd} (h1 : ckAll cs (i * 19) ndCK = true) (hn : ndR cs (i * 19) = n) (h2 : okNd n i = true) : okAt cs i = true := okAt_mk h1 (by rw [hn]; exact h2)
/-- nothing -/
def bZ : I := ⟨z64, z64⟩
set_option maxRecDepth 100000 in
theorem bZ_B : byE bZ bZ = true ∧ adE bZ bZ bZ = true := by decide +kernel
theorem bZ_0 : InB I.zero bZ := ⟨Int.le_of_eq zz_k.symm, Int.le_of_eq zz_k, Int.le_refl _⟩
theorem bZ_eq {a : I} (h : InB a bZ) : a.lo.k = F.zero.k ∧ a.hi.k = F.zero.k := by
  have h1 : z64.k ≤ a.lo.k := h.1
  have h2 : a.hi.k ≤ z64.k := h.2.1
  have h3 := h.2.2
  have := zz_k
  omega
end Bu
namespace Go.Proofs.YtgjohjgmlleebaaGreat
set_option linter.all false
open Go.RowKit Bu Rx
theorem chF_leaf {cos : I} {lf : Nd → I × Int} {cs : List SV} {i : Nat} {n : Nd} {d : I} (hn : ndR cs (i * 19) = n) (h5 : n.k ≠ 5) (h6 : n.k ≠ 6) (hd : lf n = (d, 0)) : chF (allF NdR cos lf cs) i = ⟨d, Ch.zero.m⟩ := by
  show (nodC NdR cos lf _ (ndR cs (i * 19))).1 = _
  rw [hn]
  unfold nodC
  rw [decide_eq_false h5, decide_eq_false h6, cond_false, cond_false, hd]
theorem chF_mix {cos : I} {lf : Nd → I × Int} {cs : List SV} {i : Nat} {n : Nd} {p m : I} (hn : ndR cs (i * 19) = n) (h5 : n.k = 5) (ha : 0 ≤ n.a ∧ n.a < i) (hb : 0 ≤ n.b ∧ n.b < i)
    (hp : mixK KkR 0 (n.f 15) (chF (allF NdR cos lf cs) n.a.toNat).p (chF (allF NdR cos lf cs) n.b.toNat).p = (p, 0)) (hm : mixK KkR 0 (n.f 15) (chF (allF NdR cos lf cs) n.a.toNat).m (chF (allF NdR cos lf cs) n.b.toNat).m = (m, 0)) : chF (allF NdR cos lf cs) i = ⟨p, m⟩ := by
  show (nodC NdR cos lf (fun j => (chL (allF NdR cos lf cs) i).getD j Ch.zero) (ndR cs (i * 19))).1 = _
  rw [hn]
  unfold nodC
  rw [decide_eq_true h5, cond_true]
  simp only [chL_get _ (show n.a.toNat < i by omega), chL_get _ (show n.b.toNat < i by omega)]
  show (mixC KkR _ _ _).1 = _
  rw [mixC_st hp hm]
theorem chF_coat {cos : I} {lf : Nd → I × Int} {cs : List SV} {i : Nat} {n : Nd} {o s x y z : I} (hn : ndR cs (i * 19) = n) (h6 : n.k = 6) (ha : 0 ≤ n.a ∧ n.a < i) (ho : NdR.D cos ⟨n.f 14, n.f 14⟩ = (o, 0)) (h1 : KkR.sub 0 (pt one64) o = (s, 0))
    (h2 : KkR.mul 0 s (chF (allF NdR cos lf cs) n.a.toNat).p = (x, 0)) (h3 : KkR.mul 0 s (chF (allF NdR cos lf cs) n.a.toNat).m = (y, 0)) (h4 : KkR.add 0 o y = (z, 0)) : chF (allF NdR cos lf cs) i = ⟨x, z⟩ := by
  show (nodC NdR cos lf (fun j => (chL (allF NdR cos lf cs) i).getD j Ch.zero) (ndR cs (i * 19))).1 = _
  rw [hn]
  unfold nodC
  rw [decide_eq_false (show n.k ≠ 5 by omega), decide_eq_true h6, cond_false, cond_true, ho]
  simp only [chL_get _ (show n.a.toNat < i by omega)]
  show (coatC KkR _ _).1 = _
  rw [coatC_st h1 h2 h3 h4]
theorem le_no (u : U8) : (leNd u).k ≠ 5 ∧ (leNd u).k ≠ 6 := by
  show leK u ≠ 5 ∧ leK u ≠ 6
  rcases le_kind u with e | e | e | e <;> rw [e] <;> constructor <;> omega
/-- directions of numbers -/
theorem bw_up (n : Int) : decide ((bwF d64 one64 n).k ≤ z64.k) = false := by
  refine decide_eq_false fun h => ?_
  have h1 := (bwN2 (n := n)).1
  have h2 := q_le.2 h
  have h3 : z64.q = 0 := zero0_q
  rw [h3] at h2
  grind
theorem at_ok {u : U6} {cs : List SV} {len : Nat} (h : okPg cs len = true) (hl : cs.length = len * 19) (hlen : len ≤ 20) : ObsOk (atU NprR DR (unV KkR) unB u cs len) := by
  have K := okPg_ok h
  have hv : OneP (twA (unV KkR) bwF u) := twP _ _ _
  have hu : OneP (twB (unV KkR) bwF u) := twP _ _ _
  have hB : allB NdR (twB (unV KkR) bwF u).z (lfR (dnG4 GmR) (twA (unV KkR) bwF u) (twB (unV KkR) bwF u)) (lfRo dnO4 (twA (unV KkR) bwF u) (twB (unV KkR) bwF u)) cs len = true :=
    chs_all (bzz_bz1 (one_box hu).2.2) K hlen (lfs_den K hv hu)
  exact ob_a (ob_c (decide_eq_true hl) (ob_c h (ob_c hB (ob_a (one_dir hu) (one_dir hv)))))
    (ob_c (bw_up _) (ob_c (bw_up _) (ob_c (twU _ _ _) (ob_c (twU _ _ _) (ob_c h ob_n)))))
theorem dirU_ok {x y z : Int} (hx : wN32 x = true) (hy : wN32 y = true) (hz : wN32 z = true) : ObsOk (dirU NprR x y z) := by
  obtain ⟨_, _, _, _, p1, p2⟩ := rk_p
  exact ob_c p2 (ob_c hz (ob_c p1 (ob_c hy (ob_c p1 (ob_c hx ob_n)))))
theorem u6_in {u : U6} (h : u.ok = true) : wN32 u.a0 = true ∧ wN32 u.a1 = true ∧ wN32 u.a2 = true ∧ wN32 u.a3 = true ∧ wN32 u.a4 = true ∧ wN32 u.a5 = true := by
  unfold U6.ok at h
  simpa only [Bool.and_eq_true] using h
theorem okPg_le (a : U8) : okPg (leC NprR a) 1 = true := okPg_mk rfl (by decide) (by decide) fun i hi => by
  obtain rfl : i = 0 := by omega
  exact okAt_n (by kernel_rfl) (n := leNd a) (by kernel_rfl) (okNd_le a _)
theorem fr_rn {n : Int} (h : wN32 n = true) : rnB z64 one64 (frT n) = true := by
  obtain ⟨t, e1, t0, t1, _⟩ := frT_ok h
  have eT : frT n = t := by
    unfold frT
    rw [e1]
    exact toF_F t
  rw [eT]
  have zk : z64.k = 0 := z64_0
  unfold rnB
  rw [decide_eq_true (show z64.k ≤ t.k by omega), decide_eq_true t1]; rfl
theorem okPg_mx (a b : U8) {w : Int} (hw : wN32 w = true) : okPg (dmMx NprR a b w) 3 = true := okPg_mk rfl (by decide) (by decide) fun i hi => by
  rcases (by omega : i = 0 ∨ i = 1 ∨ i = 2) with rfl | rfl | rfl
  · exact okAt_n (by kernel_rfl) (n := leNd a) (by kernel_rfl) (okNd_le a _)
  · exact okAt_n (by kernel_rfl) (n := leNd b) (by kernel_rfl) (okNd_le b _)
  · exact okAt_n (by kernel_rfl) (n := ⟨5, ndM z64 z64 z64 z64 z64 z64 z64 z64 z64 z64 z64 z64 z64 z64 z64 (frT w), 0, 1⟩) (by kernel_rfl) (okNd_5 (fr_rn hw) (by decide) (by decide) (by decide) (by decide))
theorem okPg_co (a b : U8) (i : Int) : okPg (dmCo NprR a b i) 3 = true := okPg_mk rfl (by decide) (by decide) fun j hj => by
  rcases (by omega : j = 0 ∨ j = 1 ∨ j = 2) with rfl | rfl | rfl
  · exact okAt_n (by kernel_rfl) (n := leNd a) (by kernel_rfl) (okNd_le a _)
  · exact okAt_n (by kernel_rfl) (n := leNd b) (by kernel_rfl) (okNd_le b _)
  · have z0 : rnB z64 one64 z64 = true := by decide +kernel
    exact okAt_n (by kernel_rfl) (n := ⟨6, ndM z64 z64 z64 z64 z64 z64 z64 z64 z64 z64 z64 z64 z64 z64 (bwF minIo four64 i) z64, 1, 0⟩) (by kernel_rfl) (okNd_6 (bw_rn rk_le.2.2.1) z0 z0 z0 (by decide) (by decide))
theorem dm_ok {a b : U8} {w i : Int} {u : U6} (ha : a.ok = true) (hb : b.ok = true) (hw : wN32 w = true) (hi : wN32 i = true) (hu : u.ok = true) : ObsOk (dmOb NprR DR (unV KkR) unB a b w i u) := by
  obtain ⟨k0, k1, k2, k3, k4, k5⟩ := u6_in hu
  refine ob_a ?_ (ob_a (at_ok (okPg_co a b i) rfl (by decide)) (ob_a (ob_c rk_p.2.2.1 (ob_c hi ob_n)) (ob_a (at_ok (okPg_mx a b hw) rfl (by decide)) (ob_a (ob_c hw ob_n) (ob_a (at_ok (okPg_le b) rfl (by decide)) (ob_a (at_ok (okPg_le a) rfl (by decide)) (ob_a (dirU_ok k3 k4 k5) (ob_a (dirU_ok k0 k1 k2) (ob_c hb (ob_c ha ob_n))))))))))
  have hv : OneP (twA (unV KkR) bwF u) := twP _ _ _
  have ho : OneP (twB (unV KkR) bwF u) := twP _ _ _
  obtain ⟨na5, na6⟩ := le_no a
  obtain ⟨nb5, nb6⟩ := le_no b
  obtain ⟨x, x1, x0, x2, _⟩ := leaf_den (okNd_le a 0) na5 na6 hv ho
  obtain ⟨y, y1, y0, y2, _⟩ := leaf_den (okNd_le b 0) nb5 nb6 hv ho
  have eX : chU NprR DR (unV KkR) u (leC NprR a) 1 = ⟨x, Ch.zero.m⟩ := chF_leaf (n := leNd a) (by kernel_rfl) na5 na6 x1
  have eY : chU NprR DR (unV KkR) u (leC NprR b) 1 = ⟨y, Ch.zero.m⟩ := chF_leaf (n := leNd b) (by kernel_rfl) nb5 nb6 y1
  have L := lv_ok (i := 0) (by omega)
  have w01 := rn_one (fr_rn hw)
  obtain ⟨p, p1, _, pp⟩ := mixK_pt w01 x2 y2 L.p L.pp
  obtain ⟨m, m1, m2, _⟩ := mixK_pt w01 bZ_0 bZ_0 bZ_B.1 bZ_B.2
  have eM : chU NprR DR (unV KkR) u (dmMx NprR a b w) 3 = ⟨p, m⟩ := by
    have f0 : chF (allF NdR (twB (unV KkR) NprR.b u).z (lfR NdR.g (twA (unV KkR) NprR.b u) (twB (unV KkR) NprR.b u)) (dmMx NprR a b w)) 0 = ⟨x, Ch.zero.m⟩ := chF_leaf (n := leNd a) (by kernel_rfl) na5 na6 x1
    have f1 : chF (allF NdR (twB (unV KkR) NprR.b u).z (lfR NdR.g (twA (unV KkR) NprR.b u) (twB (unV KkR) NprR.b u)) (dmMx NprR a b w)) 1 = ⟨y, Ch.zero.m⟩ := chF_leaf (n := leNd b) (by kernel_rfl) nb5 nb6 y1
    refine chF_mix (i := 2) (n := ⟨5, ndM F.zero F.zero F.zero F.zero F.zero F.zero F.zero F.zero F.zero F.zero F.zero F.zero F.zero F.zero F.zero (frT w), 0, 1⟩) (by kernel_rfl) rfl ⟨by show (0 : Int) ≤ 0; decide, by show (0 : Int) < 2; decide⟩ ⟨by show (0 : Int) ≤ 1; decide, by show (1 : Int) < 2; decide⟩ ?_ ?_
    · show mixK KkR 0 (frT w) (chF _ 0).p (chF _ 1).p = _
      rw [f0, f1]; exact p1
    · show mixK KkR 0 (frT w) (chF _ 0).m (chF _ 1).m = _
      rw [f0, f1]; exact m1
  have cz : InB (twB (unV KkR) bwF u).z bzz := (one_box ho).2.2
  have cw : (twB (unV KkR) bwF u).z.hi.q - (twB (unV KkR) bwF u).z.lo.q ≤ 1 / 64 := un_wd bwN1 bwN1 bwN2.1 bwN2.2
  obtain ⟨o, o1, o2, o3⟩ := fd_pos cz cw (bn_of (rn_one (bw_rn (n := i) rk_le.2.2.1)))
  obtain ⟨s, s1, s2⟩ := less_in o2.box
  obtain ⟨q, q1, q2⟩ := by_in s2 y2 L.p
  obtain ⟨t, t1, t2⟩ := by_in s2 bZ_0 bZ_B.1
  have bzm : InB t (Mb 0) := by
    obtain ⟨e1, e2⟩ := bZ_eq t2
    refine ⟨t2.1, ?_, t2.2.2⟩
    rw [e2, Mb_k (by omega)]
    have : F.zero.k = 0 := rfl
    unfold Mk; omega
  obtain ⟨z, z1, _⟩ := ad_in o2.box bzm L.om
  have eC : chU NprR DR (unV KkR) u (dmCo NprR a b i) 3 = ⟨q, z⟩ := by
    have f1 : chF (allF NdR (twB (unV KkR) NprR.b u).z (lfR NdR.g (twA (unV KkR) NprR.b u) (twB (unV KkR) NprR.b u)) (dmCo NprR a b i)) 1 = ⟨y, Ch.zero.m⟩ := chF_leaf (n := leNd b) (by kernel_rfl) nb5 nb6 y1
    refine chF_coat (i := 2) (n := ⟨6, ndM F.zero F.zero F.zero F.zero F.zero F.zero F.zero F.zero F.zero F.zero F.zero F.zero F.zero F.zero (bwF minIo four64 i) F.zero, 1, 0⟩) (by kernel_rfl) rfl ⟨by show (0 : Int) ≤ 1; decide, by show (1 : Int) < 2; decide⟩ o1 s1 ?_ ?_ z1
    · show KkR.mul 0 s (chF _ 1).p = _
      rw [f1]; exact q1
    · show KkR.mul 0 s (chF _ 1).m = _
      rw [f1]; exact t1
  rw [eX, eY, eM, eC]
  have zq : z64.q = 0 := zero0_q
  have xl : Mem x x.lo.q := ⟨Rat.le_refl, q_le.2 x2.2.2⟩
  have yl : Mem y y.lo.q := ⟨Rat.le_refl, q_le.2 y2.2.2⟩
  have mp := pp _ _ xl yl
  have wq0 := q_le.2 w01.1
  have wq1 := q_le.2 w01.2
  rw [zq] at wq0; rw [one_q] at wq1
  have x00 := q_lt.2 x0
  have y00 := q_lt.2 y0
  rw [zq] at x00 y00
  obtain ⟨e1, e2⟩ := bZ_eq m2
  obtain ⟨te1, te2⟩ := bZ_eq t2
  have tq : t.lo.q = 0 := by
    have : t.lo = F.zero := F.ext' te1
    rw [this]; exact q_zero
  have zf := (add_f z1).1
  have zf' : Dn z.lo (o.lo.q + t.lo.q) := zf
  have z0 := zf'.top o.lo (by rw [tq]; grind)
  have mo : Mem o o.lo.q := ⟨Rat.le_refl, rt_le o2.rt⟩
  have mq := mul_pt q1 (sub_pt s1 one_mem' mo) yl
  have oq0 := q_le.2 o2.lo
  rw [zq] at oq0
  have yr := q_le.2 y2.2.2
  have xr := q_le.2 x2.2.2
  refine ob_c (decide_eq_true (Int.lt_of_lt_of_le o3 (q_le.1 z0))) (ob_c (decide_eq_true (q_le.1 ?_)) (ob_c ?_ (ob_c (decide_eq_true (q_le.1 ?_)) (ob_c (decide_eq_true (q_le.1 ?_)) ob_n))))
  · have h1 := mq.lo
    have h2 := Rat.mul_nonneg oq0 (Rat.le_of_lt y00)
    show q.lo.q ≤ y.hi.q
    grind
  · show eqIv m I.zero = true
    unfold eqIv
    rw [decide_eq_true (show m.lo.k = I.zero.lo.k from e1), decide_eq_true (show m.hi.k = I.zero.hi.k from e2)]; rfl
  · show (mnF x.lo y.lo).q ≤ p.hi.q
    have h1 := mp.hi
    have h2 := (mnF_q x.lo y.lo).1
    have h3 := (mnF_q x.lo y.lo).2
    have h4 := Rat.mul_nonneg (show 0 ≤ 1 - (frT w).q by grind) (show 0 ≤ x.lo.q - (mnF x.lo y.lo).q by grind)
    have h5 := Rat.mul_nonneg wq0 (show 0 ≤ y.lo.q - (mnF x.lo y.lo).q by grind)
    grind
  · show p.lo.q ≤ (mxF x.hi y.hi).q
    have h1 := mp.lo
    have h2 := (mxF_q x.hi y.hi).1
    have h3 := (mxF_q x.hi y.hi).2
    have h4 := Rat.mul_nonneg (show 0 ≤ 1 - (frT w).q by grind) (show 0 ≤ (mxF x.hi y.hi).q - x.lo.q by grind)
    have h5 := Rat.mul_nonneg wq0 (show 0 ≤ (mxF x.hi y.hi).q - y.lo.q by grind)
    grind
theorem dm_pl (a b : U8) (w i : Int) (u : U6) : plains [a.sv, b.sv, .si .u32 w, .si .u32 i, u.sv] = some [.agg #[.int .u32 a.a0, .int .u32 a.a1, .int .u32 a.a2, .int .u32 a.a3, .int .u32 a.a4, .int .u32 a.a5, .int .u32 a.a6, .int .u32 a.a7], .agg #[.int .u32 b.a0, .int .u32 b.a1, .int .u32 b.a2, .int .u32 b.a3, .int .u32 b.a4, .int .u32 b.a5, .int .u32 b.a6, .int .u32 b.a7], .int .u32 w, .int .u32 i, .agg #[.int .u32 u.a0, .int .u32 u.a1, .int .u32 u.a2, .int .u32 u.a3, .int .u32 u.a4, .int .u32 u.a5]] := rfl
theorem oracleLm : OracleOk Tryz.prog (OLm NprR DR (unV KkR) unB) := .cons le8G.of (.cons frqG.of (.cons bwG.of (.cons attK.of (.cons awake22G.of (.nil _)))))
theorem u32_w {n : Int} (h : (Lit.int .u32 n).wf = true) : wN32 n = true := by
  have : 0 ≤ n ∧ n ≤ 4294967295 := by simpa [Lit.wf, IntKind.min, IntKind.max, IntKind.signed, IntKind.bits] using h
  exact decide_eq_true this
theorem u8_mk {x0 x1 x2 x3 x4 x5 x6 x7 : Int} (h0 : (Lit.int .u32 x0).wf = true) (h1 : (Lit.int .u32 x1).wf = true) (h2 : (Lit.int .u32 x2).wf = true) (h3 : (Lit.int .u32 x3).wf = true) (h4 : (Lit.int .u32 x4).wf = true) (h5 : (Lit.int .u32 x5).wf = true) (h6 : (Lit.int .u32 x6).wf = true) (h7 : (Lit.int .u32 x7).wf = true) : (U8.mk x0 x1 x2 x3 x4 x5 x6 x7).ok = true := by
  unfold U8.ok
  simp only [u32_w h0, u32_w h1, u32_w h2, u32_w h3, u32_w h4, u32_w h5, u32_w h6, u32_w h7, Bool.and_self]
theorem u6_mk {x0 x1 x2 x3 x4 x5 : Int} (h0 : (Lit.int .u32 x0).wf = true) (h1 : (Lit.int .u32 x1).wf = true) (h2 : (Lit.int .u32 x2).wf = true) (h3 : (Lit.int .u32 x3).wf = true) (h4 : (Lit.int .u32 x4).wf = true) (h5 : (Lit.int .u32 x5).wf = true) : (U6.mk x0 x1 x2 x3 x4 x5).ok = true := by
  unfold U6.ok
  simp only [u32_w h0, u32_w h1, u32_w h2, u32_w h3, u32_w h4, u32_w h5, Bool.and_self]
theorem densMix_row (x0 x1 x2 x3 x4 x5 x6 x7 z0 z1 z2 z3 z4 z5 z6 z7 w i y0 y1 y2 y3 y4 y5 : Int) (h0 : (Lit.int .u32 x0).wf = true) (h1 : (Lit.int .u32 x1).wf = true) (h2 : (Lit.int .u32 x2).wf = true) (h3 : (Lit.int .u32 x3).wf = true) (h4 : (Lit.int .u32 x4).wf = true) (h5 : (Lit.int .u32 x5).wf = true) (h6 : (Lit.int .u32 x6).wf = true) (h7 : (Lit.int .u32 x7).wf = true) (g0 : (Lit.int .u32 z0).wf = true) (g1 : (Lit.int .u32 z1).wf = true) (g2 : (Lit.int .u32 z2).wf = true) (g3 : (Lit.int .u32 z3).wf = true) (g4 : (Lit.int .u32 z4).wf = true) (g5 : (Lit.int .u32 z5).wf = true) (g6 : (Lit.int .u32 z6).wf = true) (g7 : (Lit.int .u32 z7).wf = true) (hw : (Lit.int .u32 w).wf = true) (hi : (Lit.int .u32 i).wf = true) (k0 : (Lit.int .u32 y0).wf = true) (k1 : (Lit.int .u32 y1).wf = true) (k2 : (Lit.int .u32 y2).wf = true) (k3 : (Lit.int .u32 y3).wf = true) (k4 : (Lit.int .u32 y4).wf = true) (k5 : (Lit.int .u32 y5).wf = true) (W : World) :
    Calls Tryz.prog 4 #[.agg #[.int .u32 x0, .int .u32 x1, .int .u32 x2, .int .u32 x3, .int .u32 x4, .int .u32 x5, .int .u32 x6, .int .u32 x7], .agg #[.int .u32 z0, .int .u32 z1, .int .u32 z2, .int .u32 z3, .int .u32 z4, .int .u32 z5, .int .u32 z6, .int .u32 z7], .int .u32 w, .int .u32 i, .agg #[.int .u32 y0, .int .u32 y1, .int .u32 y2, .int .u32 y3, .int .u32 y4, .int .u32 y5]] W fun e w' => e = .returned (.bool true) ∧ Below W.heap.size W w' :=
  calls_of_val goodG oracleLm 120 (dmRun NprR DR (unV KkR) unB ⟨x0, x1, x2, x3, x4, x5, x6, x7⟩ ⟨z0, z1, z2, z3, z4, z5, z6, z7⟩ w i ⟨y0, y1, y2, y3, y4, y5⟩) (dm_ok (u8_mk h0 h1 h2 h3 h4 h5 h6 h7) (u8_mk g0 g1 g2 g3 g4 g5 g6 g7) (u32_w hw) (u32_w hi) (u6_mk k0 k1 k2 k3 k4 k5)) (dm_pl _ _ _ _ _) rfl W
end Go.Proofs.YtgjohjgmlleebaaGreat
