/- VndfSeen, plain: what is asked. -/
import Derived.Test.YtccmfddnbofgkaaGreatMc
namespace Bu
set_option linter.all false
open Rx Go

structure VsP (v n : V3) (al : I) : Prop where
  e : (vsE WR n v).2 = 0
  l1 : (gt (vsE WR n v).1 5).lo.k ≤ one64.k
  l2 : one64.k ≤ (gt (vsE WR n v).1 5).hi.k
  d : 0 ≤ (gt (vsE WR n v).1 0).hi.k
  p : 0 < (gt (vsE WR n v).1 0).lo.k → 0 < (dnR KkR v n al).1.lo.k
theorem vs_ok {v n : V3} {al : I} (hv : OneP v) (hn : NrP n) (ha : AlP al) (L : LongP n.x n.y n.z) (S : SeenP v.x v.y v.z n) (gx : GrI (55, some 0) v.x) (gy : GrI (55, some 0) v.y) (G : GrI (820, some 0) n.x ∧ GrI (820, some 0) n.y ∧ GrI (820, some 0) n.z) : VsP v n al := by
  obtain ⟨v1, v2, v3⟩ := hv.b1
  obtain ⟨n1, n2, n3⟩ := hn.b1
  obtain ⟨k1, k2, k3⟩ := od_box
  have b := (box (v := [v.z, v.y, v.x, n.z, n.y, n.x]) (w := [boxZ, box1, box1, box0, box1, box1]) k3 ⟨v3, v2, v1, n3, n2, n1, trivial⟩ (of_decide_eq_true k2)).1
  have c := (eval_chain b).2
  obtain ⟨a1, a2, a3, a4, a5, a6, a7, a8⟩ := dn_ok hv hn ha
  have cd := (eval_chain a5).2
  have oq := one_q
  -- grains
  have gz : GrI (7, some 0) v.z := big_G (1 / 128) hv.up (q_le.2 hv.z.rt) (by rw [pw_7]; grind) (by have := q_le.2 hv.z.hi; rwa [one_q] at this) (by grind)
  have env := env_G (g := vsG0) (v := [v.z, v.y, v.x, n.z, n.y, n.x]) (by
    intro p hp
    simp only [vsG0, List.zip_cons_cons, List.zip_nil_right, List.mem_cons, List.not_mem_nil, or_false] at hp
    rcases hp with rfl | rfl | rfl | rfl | rfl | rfl
    · exact gz
    · exact gy
    · exact gx
    · exact G.2.2
    · exact G.2.1
    · exact G.1) rfl
  have gok : ((grRun vsP vsG0).getD 0 g0).1 ≤ 1000 := of_decide_eq_true vsG_ok
  have GD := ((grRun_ok env c 0).lo.1 (by omega)).mono gok
  -- the density's box
  obtain ⟨m1, m2, m3⟩ := den_mono
  have bd := box (v := [(ggR KkR ggD n.z al).1, (ggR KkR gg1 v.z al).1, n.z, n.y, n.x, v.z, v.y, v.x]) (w := boxN) m3 ⟨a4, a3, n3, n2, n1, v3, v2, v1, trivial⟩ den_box.2.2.1
  have od0 := Rat.le_trans (q_le.2 (of_decide_eq_true k1)) (bd.2 2).lo
  rw [c20_q] at od0
  have zlo := hv.up
  have zhi := q_le.2 hv.z.hi
  rw [oq] at zhi
  have zrt := q_le.2 hv.z.rt
  have eE : vsE WR n v = evalK KkR vsP [v.z, v.y, v.x, n.z, n.y, n.x] 0 := rfl
  have eD : dnE KkR v n (ggR KkR gg1 v.z al).1 (ggR KkR ggD n.z al).1 = evalK KkR dnP [(ggR KkR ggD n.z al).1, (ggR KkR gg1 v.z al).1, n.z, n.y, n.x, v.z, v.y, v.x] 0 := rfl
  rw [eD] at a6
  refine ⟨by rw [eE]; exact b, ?_, ?_, ?_, ?_⟩
  · rw [eE]
    generalize (evalK KkR vsP [v.z, v.y, v.x, n.z, n.y, n.x] 0).1 = u at *
    obtain ⟨p, q, r, mp, mq, mr, hs⟩ := L.lo
    clear GD
    obtain ⟨a1, ha1, a2, ha2, a3, ha3, a4, ha4, long, hlong, b1, hb1, b2, hb2, b3, hb3, b4, hb4, dot, hdot, hend⟩ := c
    have e : gt u 5 = long := by rw [hend]; rfl
    rw [e]
    have := (p_add hlong (p_add ha3 (p_mul ha1 mp mp) (p_mul ha2 mq mq)) (p_mul ha4 mr mr)).lo
    exact q_le.1 (by rw [oq]; grind)
  · rw [eE]
    generalize (evalK KkR vsP [v.z, v.y, v.x, n.z, n.y, n.x] 0).1 = u at *
    obtain ⟨p, q, r, mp, mq, mr, hs⟩ := L.hi
    clear GD
    obtain ⟨a1, ha1, a2, ha2, a3, ha3, a4, ha4, long, hlong, b1, hb1, b2, hb2, b3, hb3, b4, hb4, dot, hdot, hend⟩ := c
    have e : gt u 5 = long := by rw [hend]; rfl
    rw [e]
    have := (p_add hlong (p_add ha3 (p_mul ha1 mp mp) (p_mul ha2 mq mq)) (p_mul ha4 mr mr)).hi
    exact q_le.1 (by rw [oq]; grind)
  · rw [eE]
    generalize (evalK KkR vsP [v.z, v.y, v.x, n.z, n.y, n.x] 0).1 = u at *
    obtain ⟨p, q, r, x, y, z, mp, mq, mr, mx, my, mz, hs⟩ := S
    clear GD
    obtain ⟨a1, ha1, a2, ha2, a3, ha3, a4, ha4, long, hlong, b1, hb1, b2, hb2, b3, hb3, b4, hb4, dot, hdot, hend⟩ := c
    have e : gt u 0 = dot := by rw [hend]; rfl
    rw [e]
    have := (p_add hdot (p_add hb3 (p_mul hb1 mp mx) (p_mul hb2 mq my)) (p_mul hb4 mr mz)).hi
    show F.zero.k ≤ dot.hi.k
    exact q_le.1 (by rw [q_zero]; grind)
  · intro hp
    rw [eE] at hp
    rw [a6]
    show 0 < (gt (evalK KkR dnP _ 0).1 0).lo.k
    generalize (evalK KkR vsP [v.z, v.y, v.x, n.z, n.y, n.x] 0).1 = u at *
    have od1 : 1 / 1048576 ≤ (gt (evalK KkR dnP [(ggR KkR ggD n.z al).1, (ggR KkR gg1 v.z al).1, n.z, n.y, n.x, v.z, v.y, v.x] 0).1 2).lo.q := od0
    have odr := rt_le (bd.2 2).rt
    generalize (evalK KkR dnP [(ggR KkR ggD n.z al).1, (ggR KkR gg1 v.z al).1, n.z, n.y, n.x, v.z, v.y, v.x] 0).1 = u2 at *
    have D : 1 ≤ (gt u 0).lo.q * pw 1000 := by
      have hq : 0 < (gt u 0).lo.q := by rw [← q_zero]; exact q_lt.2 hp
      rcases GD with h | h | h
      · grind
      · exact h
      · have := Rat.mul_pos hq (pw_pos 1000); grind
    clear GD bd od0 a6 a8 a7
    obtain ⟨a1, ha1, a2, ha2, a3, ha3, a4, ha4, long, hlong, b1, hb1, b2, hb2, b3, hb3, b4, hb4, dot, hdot, hend⟩ := c
    have e : gt u 0 = dot := by rw [hend]; rfl
    rw [e] at D
    have F1 := hb1; have F2 := hb2; have F3 := hb3; have F4 := hb4; have F5 := hdot
    generalize dot = dt at *
    clear e hend hlong ha4 ha3 ha2 ha1
    obtain ⟨p1, hp1, p2, hp2, s1, hs1, p3, hp3, s2, hs2, dot, hdot, od, hod, odd, hodd, x, hx, hend⟩ := cd
    have ed : gt u2 2 = od := by rw [hend]; rfl
    have ex : gt u2 0 = x := by rw [hend]; rfl
    rw [ed] at od1 odr
    rw [ex]
    have q1 : p1 = b1 := mul_swap hp1 F1 rfl rfl
    have q2 : p2 = b2 := mul_swap hp2 F2 rfl rfl
    have q3 : p3 = b4 := mul_swap hp3 F4 rfl rfl
    have q4 : s1 = b3 := add_same hs1 F3 q1 q2
    have q5 : s2 = dt := add_same hs2 F5 q4 q3
    have dk : dot = keptI s2 z64 one64 := hdot
    rw [q5] at dk
    have zq : z64.q = 0 := zero0_q
    have P1 := pw_pos 1000
    have dlo : 1 ≤ dot.lo.q * pw 1000 ∧ dot.lo.q ≤ dot.hi.q := by
      have r5 : rt s2 = true := by
        have r1 := rt_le (AllR.rt hp1); have r2 := rt_le (AllR.rt hp2); have r3 := rt_le (AllR.rt hp3)
        have r4 := rt_le (dn_up hs1.1 hs1.2 (by show p1.lo.q + p2.lo.q ≤ p1.hi.q + p2.hi.q; grind))
        exact dn_up hs2.1 hs2.2 (by show s1.lo.q + p3.lo.q ≤ s1.hi.q + p3.hi.q; have : s1.lo.q ≤ s1.hi.q := r4; grind)
      rw [q5] at r5
      have r6 := rt_le (keptI_rt (l := z64) (h := one64) r5)
      rw [← dk] at r6
      refine ⟨?_, r6⟩
      rw [dk]
      show 1 ≤ (mnF (mxF dt.lo z64) one64).q * pw 1000
      have g1 := pw_ge 1000
      rcases mnF_or (mxF dt.lo z64) one64 with e | e <;> rw [e]
      · have := (mxF_q dt.lo z64).1
        have := Rat.mul_nonneg (show 0 ≤ (mxF dt.lo z64).q - dt.lo.q by grind) (Rat.le_of_lt P1)
        grind
      · rw [oq]; grind
    obtain ⟨d1, d2⟩ := dlo
    have d0 : 0 < dot.lo.q := by
      apply Rat.not_le.1
      intro k
      have := Rat.mul_nonneg (show 0 ≤ -dot.lo.q by grind) (Rat.le_of_lt P1)
      grind
    obtain ⟨cc, hcc⟩ := pw_F (M := 1020) (by decide)
    rw [show (1020 : Nat) = 1000 + 20 from rfl, pw_add] at hcc
    have p20 : pw 20 = 1048576 := by unfold pw; rfl
    rw [p20] at hcc
    have cle : cc.q ≤ od.lo.q * dot.lo.q := by
      have h1 := one_le_mul (p := od.lo.q * 1048576) (q := dot.lo.q * pw 1000) (by grind) d1
      refine Rat.le_of_mul_le_mul_right (c := pw 1000 * 1048576) ?_ (Rat.mul_pos P1 (by grind))
      rw [hcc]; grind
    have hodd' : AllR odd (od.lo.q * dot.lo.q) (od.lo.q * dot.hi.q) (od.hi.q * dot.lo.q) (od.hi.q * dot.hi.q) := hodd
    have m1 := Rat.mul_nonneg (show 0 ≤ od.lo.q by grind) (show 0 ≤ dot.hi.q - dot.lo.q by grind)
    have m2 := Rat.mul_nonneg (show 0 ≤ od.hi.q - od.lo.q by have : od.lo.q ≤ od.hi.q := odr; grind) (Rat.le_of_lt d0)
    have m3 := Rat.mul_nonneg (show 0 ≤ od.hi.q - od.lo.q by have : od.lo.q ≤ od.hi.q := odr; grind) (show 0 ≤ dot.hi.q by grind)
    have o1 := hodd'.top (c := cc) cle (by grind) (by grind) (by grind)
    have orr := rt_le (AllR.rt hodd)
    have c0 : 0 < cc.q := by
      apply Rat.not_le.1
      intro k
      have := Rat.mul_nonneg (show 0 ≤ -cc.q by grind) (Rat.le_of_lt (Rat.mul_pos P1 (show (0 : Rat) < 1048576 by grind)))
      grind
    have hx' : AllR x (odd.lo.q / v.z.lo.q) (odd.lo.q / v.z.hi.q) (odd.hi.q / v.z.lo.q) (odd.hi.q / v.z.hi.q) := hx.2
    have dv : ∀ {p z : Rat}, cc.q ≤ p → 0 < z → z ≤ 1 → cc.q ≤ p / z := by
      intro p z h1 h2 h3
      have e : p / z * z = p := Rat.div_mul_cancel (by grind)
      generalize p / z = t at *
      apply Rat.not_lt.1
      intro g
      have := Rat.mul_pos (show 0 < cc.q - t by grind) h2
      have := Rat.mul_nonneg (Rat.le_of_lt c0) (show 0 ≤ 1 - z by grind)
      grind
    have fin := hx'.top (c := cc) (dv o1 (by grind) (by grind)) (dv o1 (by grind) (by grind)) (dv (by grind) (by grind) (by grind)) (dv (by grind) (by grind) (by grind))
    have fin' : cc.q ≤ x.lo.q := fin
    show F.zero.k < x.lo.k
    exact q_lt.1 (by rw [q_zero]; exact Rat.not_le.1 fun k => absurd c0 (Rat.not_lt.2 (Rat.le_trans fin' k)))
theorem vsO2_ok {a b c v d e : Int} {n : V3} {r : Int} {s : Bool} (hO : obsB (vsO1 WR a b c v d e) = true) (hr : r = 0) (hn : NrP n) (P : VsP (oneV WR a b c) n (alF WR v)) (hs : s = decide ((gt (vsE WR n (oneV WR a b c)).1 0).lo.k ≤ z64.k)) : obsB (vsO2 WR a b c v d e n r s) = true := by
  have hv := oneV_ok a b c
  have ha := alF_ok v
  obtain ⟨_, _, _, _, _, a6, a7, a8⟩ := dn_ok hv hn ha
  have zk := z64_k
  unfold vsO2
  have k0 : (WR.dn (oneV WR a b c) n (alF WR v)).2 = 0 := by show (dnR KkR _ _ _).2 = 0; rw [a6]
  refine ob2 ?_ (obsB_yes (decide_eq_true (by rw [zk]; exact a8)) (obsB_yes (decide_eq_true (by rw [zk]; exact P.d)) (obsB_yes (decide_eq_true hn.z.hi) (obsB_yes (decide_eq_true (by rw [zk]; exact hn.up)) (obsB_yes (decide_eq_true P.l2) (obsB_yes (decide_eq_true P.l1) (obsB_yes (decide_eq_true k0) (obsB_yes (decide_eq_true P.e) (ob2 (dnO_ok hv hn ha) (obsB_yes (by subst hr; rfl) (obsB_yes (by subst hr; rfl) (obsB_yes (by subst hr; rfl) hO))))))))))))
  cases s
  · have hs := of_decide_eq_false hs.symm
    exact obsB_yes (decide_eq_true (by rw [zk]; exact P.p (by omega))) (obsB_yes (decide_eq_false hs) obsB_nil)
  · exact obsB_yes hs.symm obsB_nil
end Bu
