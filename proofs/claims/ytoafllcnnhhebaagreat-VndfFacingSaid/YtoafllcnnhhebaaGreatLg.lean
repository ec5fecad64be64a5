/- VndfFacing, plain: a draw from straight above, by points. VndfFacing, plain: the part that faces meets the first draw; the way it leans. VndfFacing, plain: a draw from straight above has no error; all that the law asks. -/
import Derived.Test.YtoafllcnnhhebaaGreatLa
import Derived.Test.YtoafllcnnhhebaaGreatKp
import Derived.Test.YtoafllcnnhhebaaGreatKq
import Derived.Test.YtoafllcnnhhebaaGreatLc
import Derived.Test.YtoafllcnnhhebaaGreatIm
namespace Bu
set_option linter.all false
open Rx Go

theorem Mem.eq {a : I} {x y : Rat} (h : Mem a x) (e : x = y) : Mem a y := e ▸ h
/-- what a draw from straight above tells -/
structure UpT (al sin cos A : I) (R : DR) (n : V3) : Prop where
  r : SqD R.r.lo A.lo ∧ SqU R.r.hi A.hi
  rr : R.r.lo.q ≤ R.r.hi.q
  u : ∀ q c s, Mem R.r q → Mem cos c → Mem sin s → Rts R.up (1 - q * c * (q * c) - q * s * (q * s))
  s : ∀ q c s a u, Mem R.r q → Mem cos c → Mem sin s → Mem al a → Mem R.up u → 0 ≤ u →
    R.nn2.lo.q * R.nn2.lo.q ≤ a * (q * c) * (a * (q * c)) + a * (q * s) * (a * (q * s)) + u * u ∧ a * (q * c) * (a * (q * c)) + a * (q * s) * (a * (q * s)) + u * u ≤ R.nn2.hi.q * R.nn2.hi.q
  s0 : 0 < R.nn2.lo.q
  s1 : R.nn2.lo.q ≤ R.nn2.hi.q
  x : ∀ q c s a w, Mem R.r q → Mem cos c → Mem sin s → Mem al a → Mem R.nn2 w → -1 ≤ 1 / w * (a * (q * c)) → 1 / w * (a * (q * c)) ≤ 1 → Mem n.x (1 / w * (a * (q * c)))
  y : ∀ q c s a w, Mem R.r q → Mem cos c → Mem sin s → Mem al a → Mem R.nn2 w → -1 ≤ 1 / w * (a * (q * s)) → 1 / w * (a * (q * s)) ≤ 1 → Mem n.y (1 / w * (a * (q * s)))
  z : ∀ u w, Mem R.up u → 0 ≤ u → Mem R.nn2 w → ∃ t, Mem n.z t ∧ (t = 1 / w * u ∧ t ≤ 1 ∨ t = 1 ∧ 1 ≤ 1 / w * u)
theorem drA_up {al sin cos A : I} {u : List I} (hal : rt al = true) (hA : rt A = true) (hs : rt sin = true) (hc : rt cos = true) (h : Chain drA [A, cos, sin, al, pt one64, zI, zI] u) :
    ∃ R, UpT al sin cos A R ⟨gt u 2, gt u 1, gt u 0⟩ := by
  obtain ⟨one, hone, none, hnone, sx, hsx, sy, hsy, n1, hn1, qx, hqx, qy, hqy, s1, hs1, qz, hqz, s2, hs2, nn, hnn, k, hk, wx, hwx, wy, hwy, wz, hwz, vx, hvx, vy, hvy, vz, hvz, ax, hax, ay, hay, q, hq, m, hm, ny, hny, d1, hd1, tx, htx, d2, hd2, ty, hty, tz, htz, bp1, hbp1, bq1, hbq1, bx, hbx, bp2, hbp2, bq2, hbq2, bY, hbY, bp3, hbp3, bq3, hbq3, bz, hbz, r, hr, al1, hal1, hf, hhf, o2, ho2, kk, hkk, aq, haq, left, hleft, omk, homk, mx, hmx, rt1, hrt1, m1, hm1, rs, hrs, m2, hm2, asd, hasd, sq2, hsq2, l2, hl2, mx2, hmx2, up, hup, jx1, hjx1, jy1, hjy1, jz1, hjz1, jx2, hjx2, jy2, hjy2, jz2, hjz2, gx, hgx, gy, hgy, gz, hgz, jx3, hjx3, jy3, hjy3, jz3, hjz3, hx, hhx, hy, hhy, hz, hhz, ex, hex, ey, hey, ez, hez, n2, hn2, fx, hfx, fy, hfy, s3, hs3, fz, hfz, s4, hs4, nn2, hnn2, k2, hk2, rx, hrx, ry, hry, rz, hrz, nx, hnx, nny, hnny, nz, hnz, hend⟩ := h
  have zq : z64.q = 0 := zero0_q
  have mX : Mem zI 0 := ⟨by show (toF 0).q ≤ 0; rw [zero0_q]; exact Rat.le_refl, by show 0 ≤ (toF 0).q; rw [zero0_q]; exact Rat.le_refl⟩
  have mZ : Mem (pt one64) 1 := one_mem
  have zI0 : Mem I.zero 0 := ⟨by rw [show I.zero.lo = F.zero from rfl, q_zero]; exact Rat.le_refl, by rw [show I.zero.hi = F.zero from rfl, q_zero]; exact Rat.le_refl⟩
  have ma : Mem al al.lo.q := ⟨Rat.le_refl, rt_le hal⟩
  have e1 := (p_mul hsx ma mX).eq (y := 0) (by grind)
  have e2 := (p_mul hsy ma mX).eq (y := 0) (by grind)
  have es := (p_add hs2 (p_add hs1 (p_sqr hqx e1) (p_sqr hqy e2)) (p_sqr hqz mZ)).eq (y := 1) (by grind)
  have nnQ := p_sqrt hnn es
  have n1 : Mem nn 1 := ⟨sq_le' nnQ.1 (by grind) (by grind), sq_le' (by grind) nnQ.2.2.2 (by grind)⟩
  have k1 := (p_div hk (p_num hn1 one_q) n1).eq (y := 1) (by grind)
  have x1 := p_kept hvx ((p_mul hwx k1 e1).eq (y := 0) (by grind)) (by rw [mone_q]; grind) (by rw [one_q]; grind)
  have y1 := p_kept hvy ((p_mul hwy k1 e2).eq (y := 0) (by grind)) (by rw [mone_q]; grind) (by rw [one_q]; grind)
  have z1 := p_kept hvz ((p_mul hwz k1 mZ).eq (y := 1) (by grind)) (by rw [zq]; grind) (by rw [one_q]; grind)
  have t1 := p_num htx one_q
  have t2 := p_lit hty zI0
  have t3 := p_lit htz zI0
  have b1 := (p_sub hbx (p_mul hbp1 y1 t3) (p_mul hbq1 z1 t2)).eq (y := 0) (by grind)
  have b2 := (p_sub hbY (p_mul hbp2 z1 t1) (p_mul hbq2 x1 t3)).eq (y := 1) (by grind)
  have b3 := (p_sub hbz (p_mul hbp3 x1 t2) (p_mul hbq3 y1 t1)).eq (y := 0) (by grind)
  have one1 : Mem one 1 := p_num hone one_q
  have none0 : Mem none 0 := p_num hnone zero0_q
  have kk1 := (p_mul hkk (p_num hhf half_q) (p_add ho2 one1 z1)).eq (y := 1) (by grind)
  have om0 := (p_sub homk one1 kk1).eq (y := 0) (by grind)
  have mxP : ∀ {x : Rat}, (if 0 ≤ x then x else 0) = x ∧ 0 ≤ x ∨ (if 0 ≤ x then x else 0) = 0 ∧ x ≤ 0 := by
    intro x
    by_cases c : 0 ≤ x
    · exact .inl ⟨if_pos c, c⟩
    · exact .inr ⟨if_neg c, by grind⟩
  have hr0 : rt r = true := sq_rt (a := A) hA hr.1 hr.2.1 hr.2.2
  have vL : ∀ q c, Mem r q → Mem cos c → Mem al1 (q * c) ∧ Mem left (1 - q * c * (q * c)) := by
    intro q c hq hc
    have l1 := p_mul hal1 hq hc
    exact ⟨l1, p_sub hleft one1 (p_sqr haq l1)⟩
  have vA : ∀ q c s, Mem r q → Mem cos c → Mem sin s → Mem asd (q * s) ∧ Mem l2 (1 - q * c * (q * c) - q * s * (q * s)) := by
    intro q c s hq hc hs
    obtain ⟨l1, f1⟩ := vL q c hq hc
    have tp := rts_of hrt1 (p_max (z := if 0 ≤ (1 - q * c * (q * c)) then (1 - q * c * (q * c)) else 0) hmx f1 none0 (mxP.elim (fun h => .inl h) fun h => .inr h)) mxP
    have a1 := (p_add hasd (p_mul hm1 om0 (show Mem rt1 rt1.lo.q from ⟨Rat.le_refl, tp.rt⟩)) (p_mul hm2 kk1 (p_mul hrs hq hs))).eq (y := q * s) (by grind)
    exact ⟨a1, p_sub hl2 f1 (p_sqr hsq2 a1)⟩
  have vU := fun q c s (hq : Mem r q) (hc : Mem cos c) (hs : Mem sin s) => rts_of hup (p_max (z := if 0 ≤ (1 - q * c * (q * c) - q * s * (q * s)) then (1 - q * c * (q * c) - q * s * (q * s)) else 0) hmx2 (vA q c s hq hc hs).2 none0 (mxP.elim (fun h => .inl h) fun h => .inr h)) mxP
  have mr : Mem r r.lo.q := ⟨Rat.le_refl, rt_le hr0⟩
  have mc : Mem cos cos.lo.q := ⟨Rat.le_refl, rt_le hc⟩
  have ms : Mem sin sin.lo.q := ⟨Rat.le_refl, rt_le hs⟩
  have vX : ∀ q c s u a, Mem r q → Mem cos c → Mem sin s → Mem al a → Mem up u → Mem ex (a * (q * c)) ∧ Mem ey (a * (q * s)) := by
    intro q c s u a hq hc hs ha hu
    obtain ⟨l1, _⟩ := vL q c hq hc
    obtain ⟨a1, _⟩ := vA q c s hq hc hs
    have e1 := (p_mul hex ha (p_add hhx (p_add hgx (p_mul hjx1 l1 t1) (p_mul hjx2 a1 b1)) (p_mul hjx3 hu x1))).eq (y := a * (q * c)) (by grind)
    have e2 := (p_mul hey ha (p_add hhy (p_add hgy (p_mul hjy1 l1 t2) (p_mul hjy2 a1 b2)) (p_mul hjy3 hu y1))).eq (y := a * (q * s)) (by grind)
    exact ⟨e1, e2⟩
  have vZ : ∀ u, Mem up u → 0 ≤ u → Mem ez u := by
    intro u hu u0
    obtain ⟨l1, _⟩ := vL _ _ mr mc
    obtain ⟨a1, _⟩ := vA _ _ _ mr mc ms
    have e3 := (p_add hhz (p_add hgz (p_mul hjz1 l1 t3) (p_mul hjz2 a1 b3)) (p_mul hjz3 hu z1)).eq (y := u) (by grind)
    exact p_max hez e3 none0 (.inl ⟨rfl, u0⟩)
  have ux : gt u 2 = nx := by rw [hend]; rfl
  have uy : gt u 1 = nny := by rw [hend]; rfl
  have uz : gt u 0 = nz := by rw [hend]; rfl
  have U0 := vU _ _ _ mr mc ms
  have mu : Mem up up.hi.q := ⟨U0.rt, Rat.le_refl⟩
  have u0 : 0 ≤ up.hi.q := by have := U0.nn; have := U0.rt; grind
  have sQ := fun q c s a u (hq : Mem r q) (hc : Mem cos c) (hs : Mem sin s) (ha : Mem al a) (hu : Mem up u) (h0 : 0 ≤ u) => p_sqrt hnn2 (p_add hs4 (p_add hs3 (p_sqr hfx (vX q c s u a hq hc hs ha hu).1) (p_sqr hfy (vX q c s u a hq hc hs ha hu).2)) (p_sqr hfz (vZ u hu h0)))
  have S0 := sQ _ _ _ _ _ mr mc ms ma mu u0
  have s1 : nn2.lo.q ≤ nn2.hi.q := sq_le' S0.1 S0.2.2.2 (by have := S0.2.1; have := S0.2.2.1; grind)
  have s0 : 0 < nn2.lo.q := by
    rcases no_zero (rt_q s1) hk2.1 with e | e
    · exact e
    · have := S0.1; grind
  refine ⟨⟨nn, m, r, rt1, up, nn2⟩, hr.2, rt_le hr0, vU, fun q c s a u hq hc hs ha hu h0 => ?_, s0, s1, fun q c s a w hq hc hs ha hw h1 h2 => ?_, fun q c s a w hq hc hs ha hw h1 h2 => ?_, fun u w hu h0 hw => ?_⟩
  · have := sQ q c s a u hq hc hs ha hu h0
    exact ⟨this.2.1, this.2.2.1⟩
  · show Mem (gt u _) _
    rw [ux]
    exact p_kept hnx (p_mul hrx (p_div hk2 (p_num hn2 one_q) hw) (vX q c s _ a hq hc hs ha mu).1) (by rw [mone_q]; exact h1) (by rw [one_q]; exact h2)
  · show Mem (gt u _) _
    rw [uy]
    exact p_kept hnny (p_mul hry (p_div hk2 (p_num hn2 one_q) hw) (vX q c s _ a hq hc hs ha mu).2) (by rw [mone_q]; exact h1) (by rw [one_q]; exact h2)
  · have p := p_mul hrz (p_div hk2 (p_num hn2 one_q) hw) (vZ u hu h0)
    have w0 : 0 < w := by have := hw.lo; have : nn2.lo.q ≤ w := hw.lo; grind
    have q0 := nn_mul w0 h0
    rcases (Rat.le_total : 1 / w * u ≤ 1 ∨ 1 ≤ 1 / w * u) with k | k
    · refine ⟨1 / w * u, ?_, .inl ⟨rfl, k⟩⟩
      show Mem (gt _ _) _
      rw [uz]
      exact p_kept hnz p (by rw [zq]; exact q0) (by rw [one_q]; exact k)
    · refine ⟨1, ?_, .inr ⟨rfl, k⟩⟩
      show Mem (gt _ _) _
      rw [uz, show nz = keptI rz z64 one64 from hnz]
      have hi := p.hi
      have lo := rt_le p.rt
      have ok := one64_k
      have zk := z64_k
      constructor
      · have : (keptI rz z64 one64).lo.q ≤ one64.q := q_le.2 (by simp only [keptI, mnF_k, mxF_k]; omega)
        rwa [one_q] at this
      · have h1 : one64.k ≤ rz.hi.k := q_le.1 (by rw [one_q]; grind)
        have : one64.q ≤ (keptI rz z64 one64).hi.q := q_le.2 (by simp only [keptI, mnF_k, mxF_k]; omega)
        rwa [one_q] at this
end Bu
namespace Bu
set_option linter.all false
open Rx Go

theorem ggF_pt {c al : I} {u : List I} (h : Chain ggF [c, al] u) {w a : Rat} (hw : Mem c w) (ha : Mem al a) : Mem (gt u 0) ((1 - w * w) / ((a * a - 1) * (w * w) + 1)) := by
  obtain ⟨a2, ha2, o0, ho0, c0, hc0, up, hup, o1, ho1, u1, hu1, cc, hcc, m1, hm1, o2, ho2, be, hbe, dd, hdd, hend⟩ := h
  have e : gt u 0 = dd := by rw [hend]; rfl
  rw [e]
  exact p_div hdd (p_sub hup (p_num ho0 one_q) (p_sqr hc0 hw)) (p_add hbe (p_mul hm1 (p_sub hu1 (p_sqr ha2 ha) (p_num ho1 one_q)) (p_sqr hcc hw)) (p_num ho2 one_q))
theorem bent_pos {a t : Rat} (a0 : 0 < a) (a1 : a ≤ 1) (t0 : 0 ≤ t) (t1 : t ≤ 1) : 0 < (a * a - 1) * (t * t) + 1 := by
  have h1 : t * t ≤ 1 := by have := sq_bd (x := t) (m := 1) (by grind) t1; grind
  have h2 : a * a ≤ 1 := by have := sq_bd (x := a) (m := 1) (by grind) a1; grind
  have h3 := Rat.mul_nonneg (show 0 ≤ 1 - a * a by grind) (show 0 ≤ 1 - t * t by grind)
  have h4 := Rat.mul_pos a0 a0
  grind
theorem div_le_of {x d s : Rat} (hd : 0 < d) (h : x ≤ s * d) : x / d ≤ s := by
  have e : x / d * d = x := Rat.div_mul_cancel (by grind)
  generalize x / d = q at *
  apply Rat.not_lt.1
  intro g
  have := Rat.mul_pos (show 0 < q - s by grind) hd
  grind
theorem le_div_of {x d s : Rat} (hd : 0 < d) (h : s * d ≤ x) : s ≤ x / d := by
  have e : x / d * d = x := Rat.div_mul_cancel (by grind)
  generalize x / d = q at *
  apply Rat.not_lt.1
  intro g
  have := Rat.mul_pos (show 0 < s - q by grind) hd
  grind
/-- both sides by N squared -/
theorem sq_scale {x y n : Rat} (hn : 0 < n) (h : x * (n * n) ≤ y * (n * n)) : x ≤ y := Rat.le_of_mul_le_mul_right h (Rat.mul_pos hn hn)
theorem face_lo {a t u n s : Rat} (a0 : 0 < a) (a1 : a ≤ 1) (n0 : 0 < n) (u0 : 0 ≤ u) (ht : t * n = u) (t0 : 0 ≤ t) (t1 : t ≤ 1) (hn : n * n ≤ a * a * s + u * u) (hu : 1 ≤ u * u + s) (s0 : 0 ≤ s) :
    (1 - t * t) / ((a * a - 1) * (t * t) + 1) ≤ s := by
  refine div_le_of (bent_pos a0 a1 t0 t1) (sq_scale n0 ?_)
  have tt : t * t ≤ 1 := by have := sq_bd (x := t) (m := 1) (by grind) t1; grind
  have P0 : 0 ≤ n * n - u * u := by
    have := Rat.mul_nonneg (show 0 ≤ 1 - t * t by grind) (sq_nn n)
    subst ht; grind
  have e1 : (1 - t * t) * (n * n) = n * n - u * u := by subst ht; grind
  have e2 : s * ((a * a - 1) * (t * t) + 1) * (n * n) = s * (a * a * (u * u) + (n * n - u * u)) := by subst ht; grind
  rw [e1, e2]
  have hP : n * n - u * u ≤ a * a * s := by grind
  generalize n * n - u * u = P at *
  have aa := Rat.mul_pos a0 a0
  generalize a * a = b at *
  generalize hv : u * u = v at *
  have v0 : 0 ≤ v := by rw [← hv]; exact sq_nn u
  have k1 := Rat.mul_nonneg (Rat.mul_nonneg (Rat.le_of_lt aa) s0) (show 0 ≤ v - (1 - s) by grind)
  rcases (Rat.le_total : 1 ≤ s ∨ s ≤ 1) with c | c
  · have := Rat.mul_nonneg (show 0 ≤ s - 1 by grind) P0
    have := Rat.mul_nonneg s0 (Rat.mul_nonneg (Rat.le_of_lt aa) v0)
    grind
  · have := Rat.mul_nonneg (show 0 ≤ 1 - s by grind) (show 0 ≤ b * s - P by grind)
    grind
theorem face_hi {a t u n s : Rat} (a0 : 0 < a) (a1 : a ≤ 1) (n0 : 0 < n) (ht : t * n = u) (t0 : 0 ≤ t) (t1 : t ≤ 1) (hn : a * a * s + u * u ≤ n * n) (hu : u * u + s ≤ 1) (s0 : 0 ≤ s) :
    s ≤ (1 - t * t) / ((a * a - 1) * (t * t) + 1) := by
  refine le_div_of (bent_pos a0 a1 t0 t1) (sq_scale n0 ?_)
  have e1 : (1 - t * t) * (n * n) = n * n - u * u := by subst ht; grind
  have e2 : s * ((a * a - 1) * (t * t) + 1) * (n * n) = s * (a * a * (u * u) + (n * n - u * u)) := by subst ht; grind
  rw [e1, e2]
  have hP : a * a * s ≤ n * n - u * u := by grind
  generalize n * n - u * u = P at *
  have aa := Rat.mul_pos a0 a0
  generalize a * a = b at *
  generalize hv : u * u = v at *
  have v0 : 0 ≤ v := by rw [← hv]; exact sq_nn u
  have k1 := Rat.mul_nonneg (Rat.mul_nonneg (Rat.le_of_lt aa) s0) (show 0 ≤ 1 - s - v by grind)
  have k2 := Rat.mul_nonneg (show 0 ≤ 1 - s by grind) (show 0 ≤ P - b * s by grind)
  grind
theorem inv_mul' {w u : Rat} (hw : 0 < w) : 1 / w * u * w = u := by
  have e : 1 / w * w = 1 := Rat.div_mul_cancel (by grind)
  grind
theorem meets_mem {a b : I} {x : Rat} (h : Mem a x) (k : Mem b x) : meetsB a b = true := by
  have h1 := h.lo; have h2 := h.hi; have k1 := k.lo; have k2 := k.hi
  unfold meetsB
  rw [Bool.and_eq_true, decide_eq_true_eq, decide_eq_true_eq]
  exact ⟨q_le.1 (by grind), q_le.1 (by grind)⟩
theorem meets_two {a b : I} {x y : Rat} (h : Mem a x) (k : Mem a y) (hx : x ≤ b.hi.q) (hy : b.lo.q ≤ y) : meetsB a b = true := by
  have h1 := h.lo; have k2 := k.hi
  unfold meetsB
  rw [Bool.and_eq_true, decide_eq_true_eq, decide_eq_true_eq]
  exact ⟨q_le.1 (by grind), q_le.1 (by grind)⟩
section
variable {al sin cos A : I} {R : DR} {n : V3}
theorem UpT.faces (h : UpT al sin cos A R n) {a : Rat} (ha : Mem al a) (a0 : 0 < a) (a1 : a ≤ 1) (hA : U01 A) (hC : Circ sin cos) {u : List I} (hc : Chain ggF [n.z, al] u) : meetsB (gt u 0) A = true := by
  obtain ⟨⟨s1, c1, ms1, mc1, k1⟩, ⟨s2, c2, ms2, mc2, k2⟩⟩ := hC
  have A0 := hA.lo; have A1 := hA.hi; have A2 := hA.rt
  have r1 : Mem R.r R.r.lo.q := ⟨Rat.le_refl, h.rr⟩
  have r2 : Mem R.r R.r.hi.q := ⟨h.rr, Rat.le_refl⟩
  have rl := h.r.1.le; have rg := h.r.2.ge
  have s0 := h.s0; have s1' := h.s1
  -- the lesser one
  have U1 := h.u _ _ _ r1 mc1 ms1
  have m1 : Mem R.up R.up.hi.q := ⟨U1.rt, Rat.le_refl⟩
  have u1 : 0 ≤ R.up.hi.q := by have := U1.nn; have := U1.rt; grind
  have S1 := (h.s _ _ _ a _ r1 mc1 ms1 ha m1 u1).1
  obtain ⟨t, ht, ht'⟩ := h.z _ _ m1 u1 ⟨Rat.le_refl, h.s1⟩
  have low : ∃ x, Mem (gt u 0) x ∧ x ≤ A.hi.q := by
    refine ⟨_, ggF_pt hc ht ha, ?_⟩
    rcases ht' with ⟨e, t1⟩ | ⟨e, t1⟩
    · have t0 : 0 ≤ t := by rw [e]; exact nn_mul s0 u1
      have g := face_lo (u := R.up.hi.q) (s := R.r.lo.q * c1 * (R.r.lo.q * c1) + R.r.lo.q * s1 * (R.r.lo.q * s1)) a0 a1 s0 u1 (by rw [e]; exact inv_mul' s0) t0 t1 (by grind) (by have := U1.hi; grind) (by have := sq_nn (R.r.lo.q * c1); have := sq_nn (R.r.lo.q * s1); grind)
      have k := Rat.mul_nonneg (sq_nn R.r.lo.q) (show 0 ≤ 1 - (s1 * s1 + c1 * c1) by grind)
      generalize (1 - t * t) / ((a * a - 1) * (t * t) + 1) = f at *
      generalize R.r.lo.q = q at *
      grind
    · subst e
      rw [show (1 : Rat) - 1 * 1 = 0 by grind, Rat.div_def, Rat.zero_mul]
      grind
  have U2 := h.u _ _ _ r2 mc2 ms2
  have m2 : Mem R.up R.up.lo.q := ⟨Rat.le_refl, U2.rt⟩
  have u2 := U2.nn
  have hw : Mem R.nn2 R.nn2.hi.q := ⟨h.s1, Rat.le_refl⟩
  have w0 : 0 < R.nn2.hi.q := by grind
  have S2 := (h.s _ _ _ a _ r2 mc2 ms2 ha m2 u2).2
  obtain ⟨t', hh, hh'⟩ := h.z _ _ m2 u2 hw
  have q1 := sq_nn (a * (R.r.hi.q * c2)); have q2 := sq_nn (a * (R.r.hi.q * s2))
  have ub : R.up.lo.q ≤ R.nn2.hi.q := sq_le' u2 (Rat.le_of_lt w0) (by grind)
  have ub' : 1 / R.nn2.hi.q * R.up.lo.q ≤ 1 := (clip1 w0 (sq_bd (by grind) ub)).2
  have e' : t' = 1 / R.nn2.hi.q * R.up.lo.q := by
    rcases hh' with ⟨e, _⟩ | ⟨e, k⟩
    · exact e
    · rw [e]; grind
  have high : ∃ x, Mem (gt u 0) x ∧ A.lo.q ≤ x := by
    refine ⟨_, ggF_pt hc hh ha, ?_⟩
    have t0 : 0 ≤ t' := by rw [e']; exact nn_mul w0 u2
    have t1 : t' ≤ 1 := by rw [e']; exact ub'
    rcases U2.lo with g | ⟨g, _⟩
    · have g := face_hi (u := R.up.lo.q) (s := R.r.hi.q * c2 * (R.r.hi.q * c2) + R.r.hi.q * s2 * (R.r.hi.q * s2)) a0 a1 w0 (by rw [e']; exact inv_mul' w0) t0 t1 (by grind) (by grind) (by have := sq_nn (R.r.hi.q * c2); have := sq_nn (R.r.hi.q * s2); grind)
      have k := Rat.mul_nonneg (sq_nn R.r.hi.q) (show 0 ≤ s2 * s2 + c2 * c2 - 1 by grind)
      generalize (1 - t' * t') / ((a * a - 1) * (t' * t') + 1) = f at *
      generalize R.r.hi.q = q at *
      grind
    · have tz : t' = 0 := by rw [e', g, Rat.mul_zero]
      rw [tz, show (1 : Rat) - 0 * 0 = 1 by grind, show (a * a - 1) * (0 * 0) + 1 = 1 by grind, show (1 : Rat) / 1 = 1 by decide +kernel]
      grind
  obtain ⟨x, hx, lx⟩ := low
  obtain ⟨y, hy, ly⟩ := high
  exact meets_two hx hy lx ly
theorem UpT.leans (h : UpT al sin cos A R n) {a : Rat} (ha : Mem al a) (hC : Circ sin cos) {p q : I} (hp : ∀ x y, Mem n.x x → Mem sin y → Mem p (x * y)) (hq : ∀ x y, Mem n.y x → Mem cos y → Mem q (x * y)) : meetsB p q = true := by
  obtain ⟨⟨s, c, ms, mc, k1⟩, _⟩ := hC
  have r1 : Mem R.r R.r.lo.q := ⟨Rat.le_refl, h.rr⟩
  have U1 := h.u _ _ _ r1 mc ms
  have m1 : Mem R.up R.up.hi.q := ⟨U1.rt, Rat.le_refl⟩
  have u1 : 0 ≤ R.up.hi.q := by have := U1.nn; have := U1.rt; grind
  have S1 := (h.s _ _ _ a _ r1 mc ms ha m1 u1).2
  have hw : Mem R.nn2 R.nn2.hi.q := ⟨h.s1, Rat.le_refl⟩
  have w0 : 0 < R.nn2.hi.q := by have := h.s0; have := h.s1; grind
  have q1 := sq_nn (a * (R.r.lo.q * c)); have q2 := sq_nn (a * (R.r.lo.q * s)); have q3 := sq_nn R.up.hi.q
  have b1 := clip1 (x := a * (R.r.lo.q * c)) w0 (by grind)
  have b2 := clip1 (x := a * (R.r.lo.q * s)) w0 (by grind)
  have x1 := hp _ _ (h.x _ _ _ _ _ r1 mc ms ha hw b1.1 b1.2) ms
  have x2 := hq _ _ (h.y _ _ _ _ _ r1 mc ms ha hw b2.1 b2.2) mc
  refine meets_mem x1 (x2.eq ?_)
  generalize 1 / R.nn2.hi.q = i
  generalize R.r.lo.q = q
  grind
end
end Bu
namespace Bu
set_option linter.all false
open Rx Go

def bx64 : F := toF 4580160821035794432
def bxH : F := toF 4602678819172646912
def boxS : I := ⟨z64, bx64⟩
def boxB : I := ⟨bx64, one64⟩
def boxP : I := ⟨bxH, one64⟩
def boxM : I := ⟨mone64, F.of (-bxH.k)⟩
def upB (A cos sin : I) : List I := [A, cos, sin, boxA, pt one64, zI, zI]
def upE (A cos sin : I) : Bool := decide ((evalK KkR drA (upB A cos sin) 0).2 = 0)
theorem up_mono : drA.all monoB = true ∧ drTa.all monoB = true ∧ drP1.all monoB = true ∧ ggF.all monoB = true ∧ vfP.all monoB = true := by decide +kernel
set_option maxRecDepth 100000 in
theorem up_1 : upE boxS box1 box1 = true := by decide +kernel
set_option maxRecDepth 100000 in
theorem up_2 : upE boxB boxP box1 = true := by decide +kernel
set_option maxRecDepth 100000 in
theorem up_3 : upE boxB boxM box1 = true := by decide +kernel
set_option maxRecDepth 100000 in
theorem up_4 : upE boxB box1 boxP = true := by decide +kernel
set_option maxRecDepth 100000 in
theorem up_5 : upE boxB box1 boxM = true := by decide +kernel
set_option maxRecDepth 100000 in
theorem up_q : (gt (evalK KkR drP1 (upB box0 box1 box1) 0).1 0).hi.k = 0 ∧ (gt (evalK KkR drP1 (upB box0 box1 box1) 0).1 0).lo.k = 0 ∧ (evalK KkR drP1 (upB box0 box1 box1) 0).2 = 0 ∧ (evalK KkR ggF [box0, boxA] 0).2 = 0 ∧ (evalK KkR vfP [box1, box1, box1, box1] 0).2 = 0 := by decide +kernel
theorem bx_q : bx64.q = 1 / 64 ∧ bxH.q = 1 / 2 ∧ (F.of (-bxH.k)).q = -(1 / 2) := by
  have a : bx64.q * 64 = 1 := q_of' (n := 1) (s := 6) (by decide +kernel) rfl
  have b : bxH.q * 2 = 1 := q_of' (n := 1) (s := 1) (by decide +kernel) rfl
  have c : (F.of (-bxH.k)).q * 2 = -1 := q_of' (n := -1) (s := 1) (by decide +kernel) rfl
  exact ⟨by grind, by grind, by grind⟩
theorem inB_rat {a b : I} (h1 : b.lo.q ≤ a.lo.q) (h2 : a.hi.q ≤ b.hi.q) (h3 : a.lo.q ≤ a.hi.q) : InB a b := ⟨q_le.1 h1, q_le.1 h2, q_le.1 h3⟩
theorem In1.b {a : I} (h : In1 a) : InB a box1 := ⟨h.lo, h.hi, h.rt⟩
/-- a circle's interval is far from 0, this way or that -/
theorem circ_far {s c : I} (h : Circ s c) (hs : In1 s) (hc : In1 c) (ws : wd s ≤ 1 / 8) (wc : wd c ≤ 1 / 8) : InB c boxP ∨ InB c boxM ∨ InB s boxP ∨ InB s boxM := by
  obtain ⟨_, ⟨x, y, mx, my, k⟩⟩ := h
  obtain ⟨⟨s1, s2⟩, ⟨s3, s4⟩, s5⟩ := in1_q hs
  obtain ⟨⟨c1, c2⟩, ⟨c3, c4⟩, c5⟩ := in1_q hc
  obtain ⟨_, b2, b3⟩ := bx_q
  have x1 := mx.lo; have x2 := mx.hi; have y1 := my.lo; have y2 := my.hi
  unfold wd at ws wc
  have p1 : boxP.lo.q = 1 / 2 := b2
  have p2 : boxP.hi.q = 1 := one_q
  have m1 : boxM.lo.q = -1 := mone_q
  have m2 : boxM.hi.q = -(1 / 2) := b3
  have big : ∀ {z : Rat}, 1 / 2 ≤ z * z → 11 / 16 ≤ z ∨ z ≤ -(11 / 16) := by
    intro z hz
    rcases (Rat.le_total : 0 ≤ z ∨ z ≤ 0) with g | g
    · left
      apply Rat.not_lt.1
      intro l
      have := sq_bd (x := z) (m := 11 / 16) (by grind) (Rat.le_of_lt l); grind
    · right
      apply Rat.not_lt.1
      intro l
      have := sq_bd (x := -z) (m := 11 / 16) (by grind) (by grind); grind
  by_cases c : 1 / 2 ≤ y * y
  · rcases big c with g | g
    · exact .inl (inB_rat (by rw [p1]; grind) (by rw [p2]; grind) c5)
    · exact .inr (.inl (inB_rat (by rw [m1]; grind) (by rw [m2]; grind) c5))
  · rcases big (z := x) (by grind) with g | g
    · exact .inr (.inr (.inl (inB_rat (by rw [p1]; grind) (by rw [p2]; grind) s5)))
    · exact .inr (.inr (.inr (inB_rat (by rw [m1]; grind) (by rw [m2]; grind) s5)))
theorem zI_b : InB zI zI := ⟨Int.le_refl _, Int.le_refl _, Int.le_refl _⟩
theorem one_b : InB (pt one64) (pt one64) := ⟨Int.le_refl _, Int.le_refl _, Int.le_refl _⟩
theorem U01.b {a : I} (h : U01 a) : InB a box0 := inB_rat (by show z64.q ≤ _; rw [show z64.q = 0 from zero0_q]; exact h.lo) (by show _ ≤ one64.q; rw [one_q]; exact h.hi) h.rt
theorem up_rows {al : I} {d e : Int} (ha : AlP al) (hd : u64w d) (he : u64w e) : (evalK KkR drA (envR upV al d e) 0).2 = 0 ∧ (evalK KkR drTa (envR upV al d e) 0).2 = 0 ∧ (drQ KkR (envR upV al d e)).hi.k = 0 := by
  have hu := unI_U d hd.1 hd.2
  have hv := unI_U e he.1 he.2
  have ci := cosM_in (unI e).lo (unI e).hi
  have si := sinM_in (unI e).lo (unI e).hi
  obtain ⟨k0, k1, _⟩ := unI_adj e he.1 he.2
  obtain ⟨w1, w2⟩ := sc_adj hv.lo hv.hi k0 k1
  have hul : 400 * ulp ≤ 1 / 8 := by have h : decide (400 * ulp ≤ 1 / 8) = true := by decide +kernel
                                     exact of_decide_eq_true h
  have far := circ_far (circ_M (unI_in e he.1 he.2)) si ci (by grind) (by grind)
  have U := unI_adj d hd.1 hd.2
  have b64 := bx_q.1
  have AA : InB (unI d) boxS ∨ InB (unI d) boxB := by
    by_cases c : bx64.k ≤ (unI d).lo.k
    · exact .inr ⟨c, q_le.1 (by show _ ≤ one64.q; rw [one_q]; exact hu.hi), U.1.1⟩
    · exact .inl ⟨q_le.1 (by show z64.q ≤ _; rw [show z64.q = 0 from zero0_q]; exact hu.lo), by show _ ≤ bx64.k; have := U.1.2; omega, U.1.1⟩
  have go : ∀ {A c s : I}, upE A c s = true → InB (unI d) A → InB (cosM atR (unI e).lo (unI e).hi) c → InB (sinM atR (unI e).lo (unI e).hi) s → (evalK KkR drA (envR upV al d e) 0).2 = 0 := fun {A c s} h1 h2 h3 h4 =>
    (box (v := envR upV al d e) (w := upB A c s) up_mono.1 ⟨h2, h3, h4, ha.b1, one_b, zI_b, zI_b, trivial⟩ (of_decide_eq_true h1)).1
  have e1 : (evalK KkR drA (envR upV al d e) 0).2 = 0 := by
    rcases AA with a | a
    · exact go up_1 a ci.b si.b
    · rcases far with f | f | f | f
      · exact go up_2 a f si.b
      · exact go up_3 a f si.b
      · exact go up_4 a ci.b f
      · exact go up_5 a ci.b f
  refine ⟨e1, ?_, ?_⟩
  · have e : drA = drTa ++ drA.drop drTa.length := by
      have := List.take_append_drop drTa.length drA
      rw [show drA.take drTa.length = drTa from rfl] at this
      exact this.symm
    rw [e, evalK_app] at e1
    apply Classical.byContradiction
    intro k
    exact k (by rw [eval_kept k] at e1; exact e1)
  · have b := box (v := envR upV al d e) (w := upB box0 box1 box1) up_mono.2.2.1 ⟨hu.b, ci.b, si.b, ha.b1, one_b, zI_b, zI_b, trivial⟩ up_q.2.2.1
    have i := (b.2 0).inB
    obtain ⟨i1, i2, i3⟩ := i
    rw [up_q.1] at i2
    rw [up_q.2.1] at i1
    show (gt (evalK KkR drP1 (envR upV al d e) 0).1 0).hi.k = 0
    omega
theorem up_R {al : I} {d e : Int} (ha : AlP al) (hd : u64w d) (he : u64w e) : drR KkR (envR upV al d e) = (drV KkR drA (envR upV al d e), 0) := by
  obtain ⟨e1, e2, e3⟩ := up_rows ha hd he
  unfold drR drX
  rw [e3, z64_k, neB_z e1, neB_z e2]; rfl
theorem up_in : In1 upV.x ∧ In1 upV.y ∧ In1 upV.z := by
  have a := one64_k; have b := mone64_k
  have z : (toF 0).k = 0 := by decide +kernel
  refine ⟨⟨?_, ?_, Int.le_refl _⟩, ⟨?_, ?_, Int.le_refl _⟩, ⟨?_, Int.le_refl _, Int.le_refl _⟩⟩
  · show mone64.k ≤ (toF 0).k; omega
  · show (toF 0).k ≤ one64.k; omega
  · show mone64.k ≤ (toF 0).k; omega
  · show (toF 0).k ≤ one64.k; omega
  · show mone64.k ≤ one64.k; omega
theorem up_P : OneP upV := ⟨up_in.1, up_in.2.1, up_in.2.2, by show 1 / 128 ≤ one64.q; rw [one_q]; grind⟩
theorem vfO_ok {v d e : Int} (hv : wN32 v = true) (hd : u64w d) (he : u64w e) : obsB (vfO WR v d e (WR.vd upV (alF WR v) d e).1 (WR.vd upV (alF WR v) d e).2) = true := by
  have ha := alF_ok v
  obtain ⟨e1, e2, e3⟩ := up_rows ha hd he
  have eR : WR.vd upV (alF WR v) d e = (drV KkR drA (envR upV (alF WR v) d e), 0) := up_R ha hd he
  rw [eR]
  have nr := drA_nr e1
  have hu := unI_U d hd.1 hd.2
  have ci := cosM_in (unI e).lo (unI e).hi
  have si := sinM_in (unI e).lo (unI e).hi
  have cm := circ_M (unI_in e he.1 he.2)
  obtain ⟨R, T⟩ := drA_up (rt_q ha.rt) (rt_q hu.rt) (in1_rt si) (in1_rt ci) (eval_chain e1).2
  have T : UpT (alF WR v) (sinM atR (unI e).lo (unI e).hi) (cosM atR (unI e).lo (unI e).hi) (unI d) R (drV KkR drA (envR upV (alF WR v) d e)) := T
  generalize drV KkR drA (envR upV (alF WR v) d e) = n at *
  obtain ⟨n1, n2, n3⟩ := nr.b1
  obtain ⟨f1, f2, _⟩ := gg_ok up_mono.2.2.2.1 n3 ha.b1 up_q.2.2.2.1
  have am : Mem (alF WR v) (alF WR v).lo.q := ⟨Rat.le_refl, ha.rt⟩
  have a1 := ha.lo; have a2 := ha.rt; have a3 := ha.hi
  have fE : (ggE KkR ggF n.z (alF WR v)).2 = 0 := (box (v := [n.z, alF WR v]) (w := [box0, boxA]) up_mono.2.2.2.1 ⟨n3, ha.b1, trivial⟩ up_q.2.2.2.1).1
  have m1 := T.faces am (by grind) (by grind) hu cm (eval_chain fE).2
  have vb := box (v := [cosM atR (unI e).lo (unI e).hi, sinM atR (unI e).lo (unI e).hi, n.y, n.x]) (w := [box1, box1, box1, box1]) up_mono.2.2.2.2 ⟨ci.b, si.b, n2, n1, trivial⟩ up_q.2.2.2.2
  have vc := (eval_chain vb.1).2
  have m2 : meetsB (gt (evalK KkR vfP [cosM atR (unI e).lo (unI e).hi, sinM atR (unI e).lo (unI e).hi, n.y, n.x] 0).1 1) (gt (evalK KkR vfP [cosM atR (unI e).lo (unI e).hi, sinM atR (unI e).lo (unI e).hi, n.y, n.x] 0).1 0) = true := by
    generalize (evalK KkR vfP [cosM atR (unI e).lo (unI e).hi, sinM atR (unI e).lo (unI e).hi, n.y, n.x] 0).1 = u at *
    obtain ⟨p, hp, q, hq, hend⟩ := vc
    have g1 : gt u 1 = p := by rw [hend]; rfl
    have g0 : gt u 0 = q := by rw [hend]; rfl
    rw [g1, g0]
    exact T.leans am cm (fun x y hx hy => p_mul hp hx hy) (fun x y hx hy => p_mul hq hx hy)
  have gO : obsB (ggO n.z (alF WR v)) = true := by
    have zk := z64_k
    exact ob2 (obsB_yes (decide_eq_true nr.z.hi) (obsB_yes (decide_eq_true (by rw [zk]; exact nr.up)) (obsB_yes (in1_rt nr.z) obsB_nil))) (alO_ok ha).1
  unfold vfO
  refine obsB_yes m2 (obsB_yes ?_ (obsB_yes (decide_eq_true hd) (obsB_yes (decide_eq_true vb.1) (obsB_yes (decide_eq_true f1) (obsB_yes (unI_in e he.1 he.2) (obsB_yes (decide_eq_true he) (ob2 gO (obsB_yes rfl (ob2 (vo_ok up_P ha hd he) (alFO_ok hv))))))))))
  show meetsB (ggR KkR ggF n.z (alF WR v)).1 (unI d) = true
  rw [f2]; exact m1
end Bu
