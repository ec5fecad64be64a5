/- vec.Unit, plain: the unit vector of a triple above the horizon. VndfTurned, plain: what .. -/
import Derived.Test.YthclipfgcgoofaaGreatS10
set_option linter.all false
namespace Bu
open Rx Go
theorem sqrt_mk {a:I} (hr:rt a = true) (h0:0 ≤ a.lo.q):∃ r,cSqrt qSqrt 0 a = (r,0) ∧ rt r = true ∧ SqD r.lo a.lo ∧ SqU r.hi a.hi := by
 have l := rt_le hr
 obtain ⟨x,e1,s1⟩ := (qSqrt_gen h0).1
 obtain ⟨y,e2,s2⟩ := (qSqrt_gen (a := a.hi) (by grind)).2
 refine ⟨⟨x,y⟩,?_,sq_rt (r := ⟨x,y⟩) hr h0 s1 s2,s1,s2⟩
 unfold cSqrt
 rw [e1,e2,ends_mk rfl rfl,ask_mk hr rfl]
theorem quot_bd {x y d M:Rat} (hd:0 < d) (hy:d ≤ y) (h1:-(M * d) ≤ x) (h2:x ≤ M * d) (hM:0 ≤ M):-M ≤ x / y ∧ x / y ≤ M := by
 have y0:0 < y := by grind
 have e:x / y * y = x := Rat.div_mul_cancel (by grind)
 have k := Rat.mul_nonneg hM (show 0 ≤ y - d by grind)
 generalize x / y = q at *
 constructor
 ·refine Rat.le_of_mul_le_mul_right (c := y) ?_ y0
  grind
 ·refine Rat.le_of_mul_le_mul_right (c := y) ?_ y0
  grind
theorem div_mk {a b:I} (ha:rt a = true) (hb:rt b = true) (h0:0 < b.lo.q) (h1:-(9007199254740992 * b.lo.q) ≤ a.lo.q) (h2:a.hi.q ≤ 9007199254740992 * b.lo.q) :
  ∃ r,cDiv pDiv 0 a b = (r,0) ∧ AllR r (a.lo.q / b.lo.q) (a.lo.q / b.hi.q) (a.hi.q / b.lo.q) (a.hi.q / b.hi.q) := by
 have la := rt_le ha; have lb := rt_le hb
 have z:hasB b F.zero = false := by
  unfold hasB
  rw [hb,Bool.true_and,Bool.and_eq_false_iff,decide_eq_false_iff_not,decide_eq_false_iff_not]
  left; intro k; have := q_le.2 k; rw [q_zero] at this; grind
 obtain ⟨c,hc⟩ := low_ex
 obtain ⟨d,hd⟩ := big_ex
 have p1 := quot_bd (x := a.lo.q) (y := b.lo.q) h0 Rat.le_refl h1 (by grind) (by grind)
 have p2 := quot_bd (x := a.lo.q) (y := b.hi.q) h0 lb h1 (by grind) (by grind)
 have p3 := quot_bd (x := a.hi.q) (y := b.lo.q) h0 Rat.le_refl (by grind) h2 (by grind)
 have p4 := quot_bd (x := a.hi.q) (y := b.hi.q) h0 lb (by grind) h2 (by grind)
 obtain ⟨r,e,hr,_⟩ := all_has (div_four (a := a) hb z) (c := c) (d := d) (by rw [hc]; exact p1.1) (by rw [hc]; exact p2.1) (by rw [hc]; exact p3.1) (by rw [hc]; exact p4.1) (by rw [hd]; exact p1.2) (by rw [hd]; exact p2.2) (by rw [hd]; exact p3.2) (by rw [hd]; exact p4.2)
 refine ⟨r,?_,hr⟩
 unfold cDiv
 rw [z,cond_false,e,ask_mk (by rw [ha,hb]; rfl) rfl]
theorem fl_ex (m:Int) (s:Nat) (hm:m.natAbs ≤ 9007199254740992) (hs:s ≤ 900) (w:Rat) (hw:((2 ^ s:Nat):Rat) * w = m):∃ c:F,c.q = w := by
 obtain ⟨c,hc⟩ := grid m hm s (by omega) (by omega)
 refine ⟨c,?_⟩
 have hp := pow_q s
 generalize ((2 ^ s:Nat):Rat) = p at *
 have:(c.q - w) * p = 0 := by grind
 rcases Rat.mul_eq_zero.1 this with e | e <;> grind
structure OneP (v:V3):Prop where
 x:In1 v.x
 y:In1 v.y
 z:In1 v.z
 up:1 / 128 ≤ v.z.lo.q
theorem pt_in {x:F} (h:N1 x):In1 (pt x) := ⟨q_le.1 (by rw [mone_q]; exact h.lo),q_le.1 (by rw [one_q]; exact h.hi),Int.le_refl _⟩
theorem un_okE {x y z:F} (hx:N1 x) (hy:N1 y) (z0:1 / 64 ≤ z.q) (z1:z.q ≤ 1):(unE KkR x y z).2 = 0 ∧ OneP (unV KkR x y z) := by
 have hz:N1 z := ⟨by grind,z1⟩
 have ix := pt_in hx; have iy := pt_in hy; have iz := pt_in hz
 obtain ⟨qx,e1,a1,m1⟩ := sqr_in ix
 obtain ⟨qy,e2,a2,m2⟩ := sqr_in iy
 obtain ⟨s1,e3,d3,u3⟩ := cAdd_ok a1.sm a2.sm
 obtain ⟨qz,e4,a4,m4⟩ := sqr_in iz
 have l1 := a1.lo; have h1 := a1.hi; have r1 := a1.rt; have l2 := a2.lo; have h2 := a2.hi; have r2 := a2.rt
 obtain ⟨f2,g2⟩ := fl_ex 2 0 (by decide) (by decide) 2 (by decide +kernel)
 obtain ⟨f4,g4⟩ := fl_ex 4 0 (by decide) (by decide) 4 (by decide +kernel)
 have s1lo:0 ≤ s1.lo.q := dn_nn d3 (by grind)
 have s1hi:s1.hi.q ≤ 2 := by have := u3.bot f2 (by rw [g2]; grind); rwa [g2] at this
 have s1rt:s1.lo.q ≤ s1.hi.q := by have := d3.le; have := u3.ge; grind
 have s1sm:Sm s1 := ⟨by grind,s1rt,by grind⟩
 obtain ⟨s2,e5,d5,u5⟩ := cAdd_ok s1sm a4.sm
 obtain ⟨f12,g12⟩ := fl_ex 1 12 (by decide) (by decide) (1 / 4096) (by decide +kernel)
 obtain ⟨f6,g6⟩ := fl_ex 1 6 (by decide) (by decide) (1 / 64) (by decide +kernel)
 obtain ⟨f7,g7⟩ := fl_ex 1 7 (by decide) (by decide) (1 / 128) (by decide +kernel)
 -- the square of z
 have qzlo:1 / 4096 ≤ qz.lo.q := by
  obtain ⟨r,e,d,_⟩ := cSqr_ok iz.sm
  have e':cSqr dMul 0 (pt z) = (qz,0) := e4
  rw [e'] at e
  obtain rfl:qz = r := congrArg Prod.fst e
  have b := bare_ends (a := pt z) (decide_eq_true (Int.le_refl _))
  have hb:(bareI (pt z)).lo.q * (bareI (pt z)).lo.q = z.q * z.q := by
   rcases b.1 with k | k
   ·have a := k.lo; have c := k.hi
    have:(bareI (pt z)).lo.q = z.q := by have:(pt z).lo.q = z.q := rfl; have:(pt z).hi.q = z.q := rfl; grind
    rw [this]
   ·have a := k.lo; have c := k.hi
    have:-(bareI (pt z)).lo.q = z.q := by have:(pt z).lo.q = z.q := rfl; have:(pt z).hi.q = z.q := rfl; grind
    grind
  rw [hb] at d
  rw [← g12]
  refine d.top f12 ?_
  rw [g12]
  have := sq_bd (x := 1 / 64) (m := z.q) (by grind) z0
  grind
 have l4 := a4.lo; have h4 := a4.hi; have r4 := a4.rt
 have s2lo:1 / 4096 ≤ s2.lo.q := by have := d5.top f12 (by rw [g12]; grind); rwa [g12] at this
 have s2hi:s2.hi.q ≤ 4 := by have := u5.bot f4 (by rw [g4]; grind); rwa [g4] at this
 have s2rt:s2.lo.q ≤ s2.hi.q := by have := d5.le; have := u5.ge; grind
 obtain ⟨nn,e6,r6,d6,u6⟩ := sqrt_mk (rt_q s2rt) (by grind)
 have nlo:1 / 64 ≤ nn.lo.q := by have := d6.top f6 (by rw [g6]; grind) (by rw [g6]; grind); rwa [g6] at this
 have nhi:nn.hi.q ≤ 2 := by have := u6.bot f2 (by rw [g2]; grind) (by rw [g2]; grind); rwa [g2] at this
 have nrt := rt_le r6
 have pr:∀ w:F,rt (pt w) = true := fun w => decide_eq_true (Int.le_refl _)
 have bd:∀ {w:F},N1 w → -(9007199254740992 * nn.lo.q) ≤ (pt w).lo.q ∧ (pt w).hi.q ≤ 9007199254740992 * nn.lo.q := by
  intro w hw
  have a := hw.lo; have b := hw.hi
  have:(pt w).lo.q = w.q := rfl
  have:(pt w).hi.q = w.q := rfl
  constructor <;> grind
 obtain ⟨dx,e7,_⟩ := div_mk (pr x) r6 (by grind) (bd hx).1 (bd hx).2
 obtain ⟨dy,e8,_⟩ := div_mk (pr y) r6 (by grind) (bd hy).1 (bd hy).2
 obtain ⟨dz,e9,h9⟩ := div_mk (pr z) r6 (by grind) (bd hz).1 (bd hz).2
 have hE:unE KkR x y z = ([withI dz,dz,withI dy,dy,withI dx,dx,nn,s2,qz,s1,qy,qx,pt z,pt y,pt x],0) := by
  unfold unE unP
  refine (eval_cons (r := pt x) (e' := 0) ?_).trans ?_
  ·exact rfl
  refine (eval_cons (r := pt y) (e' := 0) ?_).trans ?_
  ·exact rfl
  refine (eval_cons (r := pt z) (e' := 0) ?_).trans ?_
  ·exact rfl
  refine (eval_cons (r := qx) (e' := 0) ?_).trans ?_
  ·exact e1
  refine (eval_cons (r := qy) (e' := 0) ?_).trans ?_
  ·exact e2
  refine (eval_cons (r := s1) (e' := 0) ?_).trans ?_
  ·exact e3
  refine (eval_cons (r := qz) (e' := 0) ?_).trans ?_
  ·exact e4
  refine (eval_cons (r := s2) (e' := 0) ?_).trans ?_
  ·exact e5
  refine (eval_cons (r := nn) (e' := 0) ?_).trans ?_
  ·exact e6
  refine (eval_cons (r := dx) (e' := 0) ?_).trans ?_
  ·exact e7
  refine (eval_cons (r := withI dx) (e' := 0) ?_).trans ?_
  ·exact rfl
  refine (eval_cons (r := dy) (e' := 0) ?_).trans ?_
  ·exact e8
  refine (eval_cons (r := withI dy) (e' := 0) ?_).trans ?_
  ·exact rfl
  refine (eval_cons (r := dz) (e' := 0) ?_).trans ?_
  ·exact e9
  refine (eval_cons (r := withI dz) (e' := 0) ?_).trans ?_
  ·exact rfl
  rfl
 have hV:unV KkR x y z = ⟨withI dx,withI dy,withI dz⟩ := by unfold unV; rw [hE]; rfl
 rw [hV]
 refine ⟨by rw [hE],withI_in _,withI_in _,withI_in _,?_⟩
 -- z by the length
 have pz:(pt z).lo.q = z.q ∧ (pt z).hi.q = z.q := ⟨rfl,rfl⟩
 have low:∀ {w:Rat},nn.lo.q ≤ w → w ≤ nn.hi.q → 1 / 128 ≤ z.q / w := by
  intro w w0 w1
  have e:z.q / w * w = z.q := Rat.div_mul_cancel (by grind)
  generalize z.q / w = t at *
  apply Rat.not_lt.1
  intro g
  have := Rat.mul_pos (show 0 < 1 / 128 - t by grind) (show 0 < w by grind)
  grind
 have dzlo:1 / 128 ≤ dz.lo.q := by
  rw [← g7]
  have a := low Rat.le_refl nrt
  have b := low nrt Rat.le_refl
  refine h9.top ?_ ?_ ?_ ?_ <;> (rw [g7]; simp only [pz.1,pz.2]; assumption)
 have zn:z.q ≤ nn.hi.q := by
  refine sq_le' (by grind) (by grind) ?_
  have a := u6.ge
  have b := (m4 z.q ⟨Rat.le_refl,Rat.le_refl⟩).hi
  have c := u5.ge
  grind
 have top:z.q / nn.hi.q ≤ 1 := by
  have e:z.q / nn.hi.q * nn.hi.q = z.q := Rat.div_mul_cancel (by grind)
  generalize z.q / nn.hi.q = t at *
  apply Rat.not_lt.1
  intro g
  have := Rat.mul_pos (show 0 < t - 1 by grind) (show 0 < nn.hi.q by grind)
  grind
 have mz:Mem dz (z.q / nn.hi.q) := ⟨by have := h9.lo.2.1; simpa only [pz.1] using this,by have := h9.hi.2.1; simpa only [pz.1] using this⟩
 have b := low nrt Rat.le_refl
 show 1 / 128 ≤ (withI dz).lo.q
 rw [withI_eq mz (by grind) top]
 exact Rat.le_trans dzlo (mxF_q _ _).1
theorem un_B {x y z:F} (hx:N1 x) (hy:N1 y) (z0:1 / 64 ≤ z.q) (z1:z.q ≤ 1):unB x y z = true := by
 have kt:decide (tiny64.k ≤ d64.k) = true := by decide +kernel
 have kh:decide (one64.k ≤ huge64.k) = true := by decide +kernel
 have kd:d64.q * 64 = 1 := q_of' (n := 1) (s := 6) (by decide +kernel) rfl
 have k1 := of_decide_eq_true kt
 have k2 := of_decide_eq_true kh
 have ab:∀ {w:F},N1 w → w.abs.k ≤ one64.k := by
  intro w hw
  have a := q_le.1 (show w.q ≤ one64.q by rw [one_q]; exact hw.hi)
  have b := q_le.1 (show mone64.q ≤ w.q by rw [mone_q]; exact hw.lo)
  have c:mone64.k = -one64.k := by decide +kernel
  show ((w.k.natAbs:Nat):Int) ≤ _
  omega
 have z2:d64.k ≤ z.abs.k := by
  have a := q_le.1 (show d64.q ≤ z.q by grind)
  show _ ≤ ((z.k.natAbs:Nat):Int)
  omega
 have a := ab hx; have b := ab hy; have c := ab (w := z) ⟨by grind,z1⟩
 unfold unB mostF
 have e:(mxF (mxF x.abs y.abs) z.abs).k = max (max x.abs.k y.abs.k) z.abs.k := by rw [mxF_k,mxF_k]
 rw [e,Bool.and_eq_true,Bool.not_eq_true',Bool.not_eq_true',decide_eq_false_iff_not,decide_eq_false_iff_not]
 constructor <;> omega
theorem Dn.one {r s:F} {v:Rat} (h:Dn r v) (k:Dn s v):r = s := by
 have a := h.top _ k.le; have b := k.top _ h.le
 exact q_inj (by grind)
theorem Up.one {r s:F} {v:Rat} (h:Up r v) (k:Up s v):r = s := by
 have a := h.bot _ k.ge; have b := k.bot _ h.ge
 exact q_inj (by grind)
theorem RD.one {v:Rat} {p s:F × Int} (h:RD v p) (k:RD v s):p.2 = s.2 ∧ (p.2 = 0 → p.1 = s.1) := by
 rcases h with ⟨a,b⟩ | ⟨a,b⟩ <;> rcases k with ⟨c,d⟩ | ⟨c,d⟩
 ·exact ⟨by rw [a,c],fun _ => b.one d⟩
 ·exact absurd (d p.1) (by have := b.le; grind)
 ·exact absurd (b s.1) (by have := d.le; grind)
 ·exact ⟨by rw [a,c],fun h => by rw [a] at h; exact absurd h (by decide)⟩
theorem RU.one {v:Rat} {p s:F × Int} (h:RU v p) (k:RU v s):p.2 = s.2 ∧ (p.2 = 0 → p.1 = s.1) := by
 rcases h with ⟨a,b⟩ | ⟨a,b⟩ <;> rcases k with ⟨c,d⟩ | ⟨c,d⟩
 ·exact ⟨by rw [a,c],fun _ => b.one d⟩
 ·exact absurd (d p.1) (by have := b.ge; grind)
 ·exact absurd (b s.1) (by have := d.ge; grind)
 ·exact ⟨by rw [a,c],fun h => by rw [a] at h; exact absurd h (by decide)⟩
theorem SqD.one {r s a:F} (h:SqD r a) (k:SqD s a):r = s := by
 have a := h.top _ k.nn k.le; have b := k.top _ h.nn h.le
 exact q_inj (by grind)
theorem SqU.one {r s a:F} (h:SqU r a) (k:SqU s a):r = s := by
 have a := h.bot _ k.nn k.ge; have b := k.bot _ h.nn h.ge
 exact q_inj (by grind)
theorem Dn.turn {r:F} {v:Rat} (h:Dn r v):Up r.neg (-v) := by
 refine ⟨by rw [q_neg]; have := h.le; grind,fun c hc => ?_⟩
 have := h.top c.neg (by rw [q_neg]; grind)
 rw [q_neg] at this ⊢; grind
theorem Up.turn {r:F} {v:Rat} (h:Up r v):Dn r.neg (-v) := by
 refine ⟨by rw [q_neg]; have := h.ge; grind,fun c hc => ?_⟩
 have := h.bot c.neg (by rw [q_neg]; grind)
 rw [q_neg] at this ⊢; grind
theorem I.one {a b:I} (h1:a.lo = b.lo) (h2:a.hi = b.hi):a = b := by cases a; cases b; simp only at h1 h2; subst h1; subst h2; rfl
theorem AllR.one {r u:I} {p q s t p' q' s' t':Rat} (h:AllR r p q s t) (k:AllR u p' q' s' t')
  (hp:(p' = p ∨ p' = q ∨ p' = s ∨ p' = t) ∧ (q' = p ∨ q' = q ∨ q' = s ∨ q' = t) ∧ (s' = p ∨ s' = q ∨ s' = s ∨ s' = t) ∧ (t' = p ∨ t' = q ∨ t' = s ∨ t' = t))
  (hk:(p = p' ∨ p = q' ∨ p = s' ∨ p = t') ∧ (q = p' ∨ q = q' ∨ q = s' ∨ q = t') ∧ (s = p' ∨ s = q' ∨ s = s' ∨ s = t') ∧ (t = p' ∨ t = q' ∨ t = s' ∨ t = t')):r = u := by
 obtain ⟨a1,a2,a3,a4⟩ := h.lo; obtain ⟨b1,b2,b3,b4⟩ := h.hi
 obtain ⟨c1,c2,c3,c4⟩ := k.lo; obtain ⟨d1,d2,d3,d4⟩ := k.hi
 have e1:∀ x,(x = p ∨ x = q ∨ x = s ∨ x = t) → r.lo.q ≤ x ∧ x ≤ r.hi.q := by rintro x (rfl | rfl | rfl | rfl) <;> exact ⟨by assumption,by assumption⟩
 have e2:∀ x,(x = p' ∨ x = q' ∨ x = s' ∨ x = t') → u.lo.q ≤ x ∧ x ≤ u.hi.q := by rintro x (rfl | rfl | rfl | rfl) <;> exact ⟨by assumption,by assumption⟩
 obtain ⟨p1,p2,p3,p4⟩ := hp; obtain ⟨k1,k2,k3,k4⟩ := hk
 have f1 := k.top (e1 _ p1).1 (e1 _ p2).1 (e1 _ p3).1 (e1 _ p4).1
 have f2 := h.top (e2 _ k1).1 (e2 _ k2).1 (e2 _ k3).1 (e2 _ k4).1
 have g1 := k.bot (e1 _ p1).2 (e1 _ p2).2 (e1 _ p3).2 (e1 _ p4).2
 have g2 := h.bot (e2 _ k1).2 (e2 _ k2).2 (e2 _ k3).2 (e2 _ k4).2
 exact I.one (q_inj (by grind)) (q_inj (by grind))
theorem turn_q (a:I):(turnI a).lo.q = -a.hi.q ∧ (turnI a).hi.q = -a.lo.q := ⟨q_neg _,q_neg _⟩
theorem AllR.turn {r:I} {p q s t:Rat} (h:AllR r p q s t):AllR (turnI r) (-p) (-q) (-s) (-t) := by
 obtain ⟨a1,a2,a3,a4⟩ := h.lo; obtain ⟨b1,b2,b3,b4⟩ := h.hi
 obtain ⟨e1,e2⟩ := turn_q r
 refine ⟨⟨by grind,by grind,by grind,by grind⟩,⟨by grind,by grind,by grind,by grind⟩,?_,?_⟩
 ·rcases h.hiE with k | k | k | k
  ·exact .inl k.turn
  ·exact .inr (.inl k.turn)
  ·exact .inr (.inr (.inl k.turn))
  ·exact .inr (.inr (.inr k.turn))
 ·rcases h.loE with k | k | k | k
  ·exact .inl k.turn
  ·exact .inr (.inl k.turn)
  ·exact .inr (.inr (.inl k.turn))
  ·exact .inr (.inr (.inr k.turn))
section
variable {v w:List I} {i j i' j':Nat} {r u:I}
end
def ChainR:List Bu.Op → List I → List I → Prop
 | [],v,u => u = v
 | o :: l,v,u => ∃ r,(Fact o v r ∧ ArgsRt o v) ∧ ChainR l (r :: v) u
theorem eval_chainR:∀ {l:List Bu.Op} {v:List I} {e:Int},(evalK KkR l v e).2 = 0 → ChainR l v (evalK KkR l v e).1
 | [],_,_,_ => rfl
 | o :: l, v, e, h => by
   have h2 := eval_chainR (l := l) h
   obtain ⟨g1,g3,g2⟩ := step_fact (eval_chain (l := l) h).1
   exact ⟨_,⟨g2,g3⟩,h2⟩
def eqF (a b:F):Bool := decide (a.k = b.k)
theorem eqF_ok {a b:F} (h:eqF a b = true):a = b := F.ext' (of_decide_eq_true h)
def eqI (a b:I):Bool := eqF a.lo b.lo && eqF a.hi b.hi
theorem eqI_ok {a b:I} (h:eqI a b = true):a = b := by
 obtain ⟨h1,h2⟩ := both h
 exact I.one (eqF_ok h1) (eqF_ok h2)
theorem one_box {v:V3} (h:OneP v):InB v.x b11 ∧ InB v.y b11 ∧ InB v.z bzz := by
 have e:bzz.lo.q = 1 / 128 := by have:bzz.lo.q * 128 = 1 := q_of' (n := 1) (s := 7) (by decide +kernel) rfl; grind
 exact ⟨⟨h.x.lo,h.x.hi,h.x.rt⟩,⟨h.y.lo,h.y.hi,h.y.rt⟩,⟨q_le.1 (by rw [e]; exact h.up),h.z.hi,h.z.rt⟩⟩
def lnR (E:List I × Int) (i:Nat):I × Int := bif neB E.2 then (I.zero,E.2) else (gt E.1 i,0)
def miK (K:Kk) (v u:V3):List I × Int := evalK K miH [u.z,u.y,u.x,v.z,v.y,v.x] 0
def g2K (K:Kk) (c d al:I):List I × Int := evalK K gg2 [d,c,al] 0
def fdK (K:Kk) (c n:I):List I × Int := evalK K frD [c,n] 0
def fcK (K:Kk) (c a b:I):List I × Int := evalK K frC [c,a,b] 0
def lbK (K:Kk) (r:I):List I × Int := evalK K lbV [r] 0
def u01O (c:I):Obs := [(decide (c.hi.k ≤ one64.k),true),(decide (z64.k ≤ c.lo.k),true),(rt c,true)]
def bndO (c:I) (l h:F):Obs := [(decide (c.hi.k ≤ h.k),true),(decide (l.k ≤ c.lo.k),true),(rt c,true)]
def kHf (f:V3 → V3 → List I × Int):List SV → Dec → Option (SV × Dec × Obs)
 | [.agg [.fl a, .fl b, .fl c, .fl d, .fl e, .fl f'], .agg [.fl g, .fl h, .fl i, .fl j, .fl k, .fl l]], ds =>
   some (.tup [.agg [.fl (lnR (f ⟨⟨a,b⟩,⟨c,d⟩,⟨e,f'⟩⟩ ⟨⟨g,h⟩,⟨i,j⟩,⟨k,l⟩⟩) 0).1.lo,.fl (lnR (f ⟨⟨a,b⟩,⟨c,d⟩,⟨e,f'⟩⟩ ⟨⟨g,h⟩,⟨i,j⟩,⟨k,l⟩⟩) 0).1.hi],.agg [.fl (lnR (f ⟨⟨a,b⟩,⟨c,d⟩,⟨e,f'⟩⟩ ⟨⟨g,h⟩,⟨i,j⟩,⟨k,l⟩⟩) 3).1.lo,.fl (lnR (f ⟨⟨a,b⟩,⟨c,d⟩,⟨e,f'⟩⟩ ⟨⟨g,h⟩,⟨i,j⟩,⟨k,l⟩⟩) 3).1.hi],.si .i64 (f ⟨⟨a,b⟩,⟨c,d⟩,⟨e,f'⟩⟩ ⟨⟨g,h⟩,⟨i,j⟩,⟨k,l⟩⟩).2],ds,dirO ⟨⟨a,b⟩,⟨c,d⟩,⟨e,f'⟩⟩ ++ dirO ⟨⟨g,h⟩,⟨i,j⟩,⟨k,l⟩⟩)
 | _,_ => none
def kI3 (f:I → I → I → I × Int) (o:I → I → I → Obs):List SV → Dec → Option (SV × Dec × Obs)
 | [.agg [.fl a,.fl b],.agg [.fl c,.fl d],.agg [.fl e,.fl g]],ds => some (.tup [.agg [.fl (f ⟨a,b⟩ ⟨c,d⟩ ⟨e,g⟩).1.lo,.fl (f ⟨a,b⟩ ⟨c,d⟩ ⟨e,g⟩).1.hi],.si .i64 (f ⟨a,b⟩ ⟨c,d⟩ ⟨e,g⟩).2],ds,o ⟨a,b⟩ ⟨c,d⟩ ⟨e,g⟩)
 | _,_ => none
def kI2 (f:I → I → I × Int) (o:I → I → Obs):List SV → Dec → Option (SV × Dec × Obs)
 | [.agg [.fl a,.fl b],.agg [.fl c,.fl d]],ds => some (.tup [.agg [.fl (f ⟨a,b⟩ ⟨c,d⟩).1.lo,.fl (f ⟨a,b⟩ ⟨c,d⟩).1.hi],.si .i64 (f ⟨a,b⟩ ⟨c,d⟩).2],ds,o ⟨a,b⟩ ⟨c,d⟩)
 | _,_ => none
def kI1 (f:I → I × Int) (o:I → Obs):List SV → Dec → Option (SV × Dec × Obs)
 | [.agg [.fl a,.fl b]],ds => some (.tup [.agg [.fl (f ⟨a,b⟩).1.lo,.fl (f ⟨a,b⟩).1.hi],.si .i64 (f ⟨a,b⟩).2],ds,o ⟨a,b⟩)
 | _,_ => none
end Bu
namespace Go.Proofs.YthclipfgcgoofaaGreat
open Go.RowKit Bu Rx
def OLk (K:Kk):OracleF := lookO (OCL K ++ [(200,kMlook)])
theorem oracleLk:OracleOk Tryz.prog (OLk KkR) :=
 .cons addC <| .cons subC <| .cons mulC <| .cons divC <| .cons cmax_I <| .cons sqrC <| .cons csqrt_I <|
 .cons negC <|
 .cons numC <| .cons irtK.of <| .cons rightG.of <| .cons absG.of <| .cons vwG.of <| .cons piG.of <| .cons mlook_ok <| .nil _
theorem hfRun0 (K:Kk) (v u:V3):valR ((run Tryz.prog EG (OLk K) 80).1 201 [v.sv,u.sv] [] (some [false])) = some (.tup [ivS (gt (miK K v u).1 0),ivS (gt (miK K v u).1 3),.i .i64 0],some [],(neB (miK K v u).2,false) :: (dirO v ++ dirO u)) := by kernel_rfl
theorem hfRun1 (K:Kk) (v u:V3):valR ((run Tryz.prog EG (OLk K) 80).1 201 [v.sv,u.sv] [] (some [true])) = some (.tup [ivS I.zero,ivS I.zero,.si .i64 (miK K v u).2],some [],(neB (miK K v u).2,true) :: (dirO v ++ dirO u)) := by kernel_rfl
def g2O (c d al:I):Obs := u01d d ++ ggO c al where u01d (d:I):Obs := [(decide (d.hi.k ≤ one64.k),true),(decide (z64.k ≤ d.lo.k),true),(rt d,true)]
theorem g2Run (K:Kk) (c d al:I) (b:Bool):valR ((run Tryz.prog EG (lookO (OCL K)) 80).1 203 [ivS c,ivS d,ivS al] [] (some [true,true,true,true,true,true,true,true,true,b])) = some (.tup (bif b then [ivS I.zero,.si .i64 (g2K K c d al).2] else [ivS (gt (g2K K c d al).1 0),.i .i64 0]),some [],(neB (g2K K c d al).2,b) :: g2O c d al) := by cases b <;> kernel_rfl
theorem fdRun (K:Kk) (c n:I) (b:Bool):valR ((run Tryz.prog EG (lookO (OCL K)) 80).1 68 [ivS c,ivS n] [] (some [true,true,false,false,false,false,b])) = some (.tup (bif b then [ivS I.zero,.si .i64 (fdK K c n).2] else [ivS (gt (fdK K c n).1 0),.i .i64 0]),some [],[(neB (fdK K c n).2,b),(decide (four64.k < n.hi.k),false),(decide (n.lo.k < minIo.k),false),(decide (one64.k < c.hi.k),false),(decide (c.lo.k < z64.k),false),(rt n,true),(rt c,true)]) := by cases b <;> kernel_rfl
theorem fcRun (K:Kk) (c m n:I) (b:Bool):valR ((run Tryz.prog EG (lookO (OCL K)) 80).1 247 [ivS c,ivS m,ivS n] [] (some [true,true,true,false,false,false,false,false,false,b])) = some (.tup (bif b then [ivS I.zero,.si .i64 (fcK K c m n).2] else [ivS (gt (fcK K c m n).1 0),.i .i64 0]),some [],[(neB (fcK K c m n).2,b),(decide (maxMt.k < n.hi.k),false),(decide (n.lo.k < minMt.k),false),(decide (maxMt.k < m.hi.k),false),(decide (m.lo.k < minMt.k),false),(decide (one64.k < c.hi.k),false),(decide (c.lo.k < z64.k),false),(rt n,true),(rt m,true),(rt c,true)]) := by cases b <;> kernel_rfl
theorem lbRun (K:Kk) (r:I) (b:Bool):valR ((run Tryz.prog EG (lookO (OCL K)) 80).1 199 [ivS r] [] (some [true,false,false,b])) = some (.tup (bif b then [ivS I.zero,.si .i64 (lbK K r).2] else [ivS (gt (lbK K r).1 0),.i .i64 0]),some [],[(neB (lbK K r).2,b),(decide (one64.k < r.hi.k),false),(decide (r.lo.k < z64.k),false),(rt r,true)]) := by cases b <;> kernel_rfl
end Go.Proofs.YthclipfgcgoofaaGreat
namespace Bu
open Rx Go
theorem ob_c {c b:Bool} {ob:Obs} (h:c = b) (k:ObsOk ob):ObsOk ((c,b) :: ob) := fun q hq => by
 rcases List.mem_cons.1 hq with rfl | hq
 ·exact h
 ·exact k q hq
theorem ob_n:ObsOk [] := fun _ h => by cases h
theorem ob_a {a b:Obs} (h:ObsOk a) (k:ObsOk b):ObsOk (a ++ b) := fun q hq => by
 rcases List.mem_append.1 hq with hq | hq
 ·exact h q hq
 ·exact k q hq
theorem ob_l {a b:Obs} (h:ObsOk (a ++ b)):ObsOk a := fun q hq => h q (List.mem_append_left _ hq)
theorem ob_r {a b:Obs} (h:ObsOk (a ++ b)):ObsOk b := fun q hq => h q (List.mem_append_right _ hq)
theorem ob_h {c b:Bool} {ob:Obs} (h:ObsOk ((c,b) :: ob)):c = b := h (c,b) (List.mem_cons_self ..)
theorem ob_t {c b:Bool} {ob:Obs} (h:ObsOk ((c,b) :: ob)):ObsOk ob := fun q hq => h q (List.mem_cons_of_mem _ hq)
theorem not_lt {a b:Int} (h:decide (a ≤ b) = true):decide (b < a) = false := decide_eq_false (by have := of_decide_eq_true h; omega)
def fdO (c n:I):Obs := bndO n minIo four64 ++ u01O c
def fcO (c m n:I):Obs := bndO n minMt maxMt ++ (bndO m minMt maxMt ++ u01O c)
structure GlK where
 H:V3 → V3 → List I × Int
 d:I → I → I × Int
 b:I → I → I → I × Int
 o:I → I → I × Int
def glH (G:GlK) (v u:V3):I × I := ((lnR (G.H v u) 0).1,(lnR (G.H v u) 3).1)
def glE (K:Kk) (G:GlK) (v u:V3) (al:I):List I × Int := evalK K miV [(G.o u.z al).1,(G.b v.z u.z al).1,(G.d (glH G v u).1 al).1,u.z,v.z] 0
def glErr (K:Kk) (G:GlK) (v u:V3) (al:I):Int := bif neB (G.H v u).2 then (G.H v u).2 else bif neB (G.d (glH G v u).1 al).2 then (G.d (glH G v u).1 al).2 else bif neB (G.b v.z u.z al).2 then (G.b v.z u.z al).2 else bif neB (G.o u.z al).2 then (G.o u.z al).2 else (glE K G v u al).2
structure Gl4 where
 ln:I
 hf:I
 v:I
 d:I
def Gl4.sv (g:Gl4):SV := .agg [.fl g.ln.lo,.fl g.ln.hi,.fl g.hf.lo,.fl g.hf.hi,.fl g.v.lo,.fl g.v.hi,.fl g.d.lo,.fl g.d.hi]
def Gl4.zero:Gl4 := ⟨I.zero,I.zero,I.zero,I.zero⟩
def glV (K:Kk) (G:GlK) (v u:V3) (al:I):Gl4 := ⟨(glH G v u).1,(glH G v u).2,gt (glE K G v u al).1 3,gt (glE K G v u al).1 0⟩
def glR (K:Kk) (G:GlK) (v u:V3) (al:I):Gl4 × Int := bif neB (glErr K G v u al) then (Gl4.zero,glErr K G v u al) else (glV K G v u al,0)
def glO (v u:V3) (al:I):Obs := alO al ++ (dirO v ++ dirO u)
def kGl (f:V3 → V3 → I → Gl4 × Int):List SV → Dec → Option (SV × Dec × Obs)
 | [.agg [.fl a, .fl b, .fl c, .fl d, .fl e, .fl f'], .agg [.fl g, .fl h, .fl i, .fl j, .fl k, .fl l], .agg [.fl p, .fl q]], ds =>
   some (.tup [(f ⟨⟨a,b⟩,⟨c,d⟩,⟨e,f'⟩⟩ ⟨⟨g,h⟩,⟨i,j⟩,⟨k,l⟩⟩ ⟨p,q⟩).1.sv,.si .i64 (f ⟨⟨a,b⟩,⟨c,d⟩,⟨e,f'⟩⟩ ⟨⟨g,h⟩,⟨i,j⟩,⟨k,l⟩⟩ ⟨p,q⟩).2],ds,glO ⟨⟨a,b⟩,⟨c,d⟩,⟨e,f'⟩⟩ ⟨⟨g,h⟩,⟨i,j⟩,⟨k,l⟩⟩ ⟨p,q⟩)
 | _,_ => none
end Bu
namespace Go.Proofs.YthclipfgcgoofaaGreat
open Go.RowKit Bu Rx
theorem I1_of {g:FuncId} {O:OracleF} (hO:OracleOk Tryz.prog O) {n:Nat} {E:I → List I × Int} {i:Nat} {o o':I → Obs} {l:Bool → List Bool} (run:∀ c b,valR ((run Tryz.prog EG O n).1 g [ivS c] [] (some (l b))) = some (.tup (bif b then [ivS I.zero,.si .i64 (E c).2] else [ivS (gt (E c).1 i),.i .i64 0]),some [],(neB (E c).2,b) :: o' c))
  (ho:∀ c,ObsOk (o c) → ObsOk (o' c)):PlainOk Tryz.prog g (kI1 (fun c => lnR (E c) i) o) := by
 intro args ds x ds' ob h hob
 unfold kI1 at h
 split at h
 ·rename_i a b
  simp only [Option.some.injEq,Prod.mk.injEq] at h
  obtain ⟨rfl,_,rfl⟩ := h
  refine ⟨[.agg #[.float .f64 a.b,.float .f64 b.b]],_,rfl,rfl,fun w => ?_⟩
  have r := run ⟨a,b⟩ (neB (E ⟨a,b⟩).2)
  unfold lnR
  cases k:neB (E ⟨a,b⟩).2 <;> rw [k] at r <;> exact calls_of_val goodG hO n r (ob_c rfl (ho _ hob)) rfl rfl w
 ·cases h
theorem I2_of {g:FuncId} {O:OracleF} (hO:OracleOk Tryz.prog O) {n:Nat} {E:I → I → List I × Int} {i:Nat} {o o':I → I → Obs} {l:Bool → List Bool} (run:∀ c d b,valR ((run Tryz.prog EG O n).1 g [ivS c,ivS d] [] (some (l b))) = some (.tup (bif b then [ivS I.zero,.si .i64 (E c d).2] else [ivS (gt (E c d).1 i),.i .i64 0]),some [],(neB (E c d).2,b) :: o' c d))
  (ho:∀ c d,ObsOk (o c d) → ObsOk (o' c d)):PlainOk Tryz.prog g (kI2 (fun c d => lnR (E c d) i) o) := by
 intro args ds x ds' ob h hob
 unfold kI2 at h
 split at h
 ·rename_i a b c d
  simp only [Option.some.injEq,Prod.mk.injEq] at h
  obtain ⟨rfl,_,rfl⟩ := h
  refine ⟨[.agg #[.float .f64 a.b,.float .f64 b.b],.agg #[.float .f64 c.b,.float .f64 d.b]],_,rfl,rfl,fun w => ?_⟩
  have r := run ⟨a,b⟩ ⟨c,d⟩ (neB (E ⟨a,b⟩ ⟨c,d⟩).2)
  unfold lnR
  cases k:neB (E ⟨a,b⟩ ⟨c,d⟩).2 <;> rw [k] at r <;> exact calls_of_val goodG hO n r (ob_c rfl (ho _ _ hob)) rfl rfl w
 ·cases h
theorem I3_of {g:FuncId} {O:OracleF} (hO:OracleOk Tryz.prog O) {n:Nat} {E:I → I → I → List I × Int} {i:Nat} {o o':I → I → I → Obs} {l:Bool → List Bool} (run:∀ c d e b,valR ((run Tryz.prog EG O n).1 g [ivS c,ivS d,ivS e] [] (some (l b))) = some (.tup (bif b then [ivS I.zero,.si .i64 (E c d e).2] else [ivS (gt (E c d e).1 i),.i .i64 0]),some [],(neB (E c d e).2,b) :: o' c d e))
  (ho:∀ c d e,ObsOk (o c d e) → ObsOk (o' c d e)):PlainOk Tryz.prog g (kI3 (fun c d e => lnR (E c d e) i) o) := by
 intro args ds x ds' ob h hob
 unfold kI3 at h
 split at h
 ·rename_i a b c d e f
  simp only [Option.some.injEq,Prod.mk.injEq] at h
  obtain ⟨rfl,_,rfl⟩ := h
  refine ⟨[.agg #[.float .f64 a.b,.float .f64 b.b],.agg #[.float .f64 c.b,.float .f64 d.b],.agg #[.float .f64 e.b,.float .f64 f.b]],_,rfl,rfl,fun w => ?_⟩
  have r := run ⟨a,b⟩ ⟨c,d⟩ ⟨e,f⟩ (neB (E ⟨a,b⟩ ⟨c,d⟩ ⟨e,f⟩).2)
  unfold lnR
  cases k:neB (E ⟨a,b⟩ ⟨c,d⟩ ⟨e,f⟩).2 <;> rw [k] at r <;> exact calls_of_val goodG hO n r (ob_c rfl (ho _ _ _ hob)) rfl rfl w
 ·cases h
theorem g2G:PlainOk Tryz.prog 203 (kI3 (fun c d al => lnR (g2K KkR c d al) 0) g2O) := I3_of oracleCL (l := fun b => [true,true,true,true,true,true,true,true,true,b]) (g2Run KkR) fun _ _ _ h => h
theorem fdG:PlainOk Tryz.prog 68 (kI2 (fun c n => lnR (fdK KkR c n) 0) fdO) := I2_of oracleCL (l := fun b => [true,true,false,false,false,false,b]) (fdRun KkR) fun c n h => by
 have a := ob_l h; have b := ob_r h
 exact ob_c (not_lt (ob_h a)) (ob_c (not_lt (ob_h (ob_t a))) (ob_c (not_lt (ob_h b)) (ob_c (not_lt (ob_h (ob_t b))) (ob_c (ob_h (ob_t (ob_t a))) (ob_c (ob_h (ob_t (ob_t b))) ob_n)))))
theorem fcG:PlainOk Tryz.prog 247 (kI3 (fun c m n => lnR (fcK KkR c m n) 0) fcO) := I3_of oracleCL (l := fun b => [true,true,true,false,false,false,false,false,false,b]) (fcRun KkR) fun c m n h => by
 have a := ob_l h; have b := ob_l (ob_r h); have e := ob_r (ob_r h)
 exact ob_c (not_lt (ob_h a)) (ob_c (not_lt (ob_h (ob_t a))) (ob_c (not_lt (ob_h b)) (ob_c (not_lt (ob_h (ob_t b))) (ob_c (not_lt (ob_h e)) (ob_c (not_lt (ob_h (ob_t e))) (ob_c (ob_h (ob_t (ob_t a))) (ob_c (ob_h (ob_t (ob_t b))) (ob_c (ob_h (ob_t (ob_t e))) ob_n))))))))
theorem lbG:PlainOk Tryz.prog 199 (kI1 (fun r => lnR (lbK KkR r) 0) u01O) := I1_of oracleCL (l := fun b => [true,false,false,b]) (lbRun KkR) fun r h =>
 ob_c (not_lt (ob_h h)) (ob_c (not_lt (ob_h (ob_t h))) (ob_c (ob_h (ob_t (ob_t h))) ob_n))
set_option maxRecDepth 100000 in
theorem hfG:PlainOk Tryz.prog 201 (kHf (miK KkR)) := by
 intro args ds x ds' ob h hob
 unfold kHf at h
 split at h
 ·rename_i a b c d e f g h' i j k l
  simp only [Option.some.injEq,Prod.mk.injEq] at h
  obtain ⟨rfl,_,rfl⟩ := h
  generalize hv:(⟨⟨a,b⟩,⟨c,d⟩,⟨e,f⟩⟩:V3) = v at *
  generalize hu:(⟨⟨g,h'⟩,⟨i,j⟩,⟨k,l⟩⟩:V3) = u at *
  have e1:(.agg [.fl a,.fl b,.fl c,.fl d,.fl e,.fl f]:SV) = v.sv := by subst hv; rfl
  have e2:(.agg [.fl g,.fl h',.fl i,.fl j,.fl k,.fl l]:SV) = u.sv := by subst hu; rfl
  rw [e1,e2]
  refine ⟨[.agg #[.float .f64 v.x.lo.b,.float .f64 v.x.hi.b,.float .f64 v.y.lo.b,.float .f64 v.y.hi.b,.float .f64 v.z.lo.b,.float .f64 v.z.hi.b],.agg #[.float .f64 u.x.lo.b,.float .f64 u.x.hi.b,.float .f64 u.y.lo.b,.float .f64 u.y.hi.b,.float .f64 u.z.lo.b,.float .f64 u.z.hi.b]],_,rfl,rfl,fun w => ?_⟩
  unfold lnR
  have r0 := hfRun0 KkR v u
  have r1 := hfRun1 KkR v u
  cases q:neB (miK KkR v u).2
  ·have z:(miK KkR v u).2 = 0 := neB_0 q
   rw [z]
   simp only [cond_false]
   generalize gt (miK KkR v u).1 0 = A at r0 ⊢
   generalize gt (miK KkR v u).1 3 = B at r0 ⊢
   exact calls_of_val goodG oracleLk 80 r0 (ob_c q hob) rfl rfl w
  ·exact calls_of_val goodG oracleLk 80 r1 (ob_c q hob) rfl rfl w
 ·cases h
def OGl (K:Kk) (G:GlK):OracleF := lookO (OCL K ++ [(200,kMlook),(201,plainO (kHf G.H)),(202,plainO (kGg G.d)),(203,plainO (kI3 G.b g2O)),(204,plainO (kGg G.o))])
def GlR:GlK := ⟨miK KkR,ggR KkR ggD,fun c d al => lnR (g2K KkR c d al) 0,ggR KkR gg1⟩
set_option maxRecDepth 100000 in
theorem oracleGl:OracleOk Tryz.prog (OGl KkR GlR) :=
 .cons addC <| .cons subC <| .cons mulC <| .cons divC <| .cons cmax_I <| .cons sqrC <| .cons csqrt_I <|
 .cons negC <|
 .cons numC <| .cons irtK.of <| .cons rightG.of <| .cons absG.of <| .cons vwG.of <| .cons piG.of <| .cons mlook_ok <| .cons hfG.of <| .cons ggDG.of <| .cons g2G.of <| .cons gg1G.of <| .nil _
def t3f:List Bool := [true,false,false]
def glO' (v u:V3) (al:I):Obs := (decide (one64.k < al.hi.k),false) :: (decide (al.lo.k < minA.k),false) :: (rt al,true) :: (dirO v ++ dirO u)
def glA (K:Kk) (G:GlK) (v u:V3) (al:I) (b:Bool):Obs := (neB (G.H v u).2,b) :: (dirO v ++ dirO u ++ glO' v u al)
def glB (K:Kk) (G:GlK) (v u:V3) (al:I) (b:Bool):Obs := (neB (G.d (glH G v u).1 al).2,b) :: (ggO (glH G v u).1 al ++ glA K G v u al false)
def glC (K:Kk) (G:GlK) (v u:V3) (al:I) (b:Bool):Obs := (neB (G.b v.z u.z al).2,b) :: (g2O v.z u.z al ++ glB K G v u al false)
def glD (K:Kk) (G:GlK) (v u:V3) (al:I) (b:Bool):Obs := (neB (G.o u.z al).2,b) :: (ggO u.z al ++ glC K G v u al false)
theorem glRunA (K:Kk) (G:GlK) (v u:V3) (al:I):valR ((run Tryz.prog EG (OGl K G) 80).1 139 [v.sv,u.sv,ivS al] [] (some (t3f ++ [true]))) = some (.tup [Gl4.zero.sv,.si .i64 (G.H v u).2],some [],glA K G v u al true) := by kernel_rfl
theorem glRunB (K:Kk) (G:GlK) (v u:V3) (al:I):valR ((run Tryz.prog EG (OGl K G) 80).1 139 [v.sv,u.sv,ivS al] [] (some (t3f ++ [false,true]))) = some (.tup [Gl4.zero.sv,.si .i64 (G.d (glH G v u).1 al).2],some [],glB K G v u al true) := by kernel_rfl
theorem glRunC (K:Kk) (G:GlK) (v u:V3) (al:I):valR ((run Tryz.prog EG (OGl K G) 80).1 139 [v.sv,u.sv,ivS al] [] (some (t3f ++ [false,false,true]))) = some (.tup [Gl4.zero.sv,.si .i64 (G.b v.z u.z al).2],some [],glC K G v u al true) := by kernel_rfl
theorem glRunD (K:Kk) (G:GlK) (v u:V3) (al:I):valR ((run Tryz.prog EG (OGl K G) 80).1 139 [v.sv,u.sv,ivS al] [] (some (t3f ++ [false,false,false,true]))) = some (.tup [Gl4.zero.sv,.si .i64 (G.o u.z al).2],some [],glD K G v u al true) := by kernel_rfl
theorem glRunE (K:Kk) (G:GlK) (v u:V3) (al:I):valR ((run Tryz.prog EG (OGl K G) 80).1 139 [v.sv,u.sv,ivS al] [] (some (t3f ++ [false,false,false,false,true]))) = some (.tup [Gl4.zero.sv,.si .i64 (glE K G v u al).2],some [],(neB (glE K G v u al).2,true) :: glD K G v u al false) := by kernel_rfl
theorem glRunF (K:Kk) (G:GlK) (v u:V3) (al:I):valR ((run Tryz.prog EG (OGl K G) 80).1 139 [v.sv,u.sv,ivS al] [] (some (t3f ++ [false,false,false,false,false]))) = some (.tup [(glV K G v u al).sv,.i .i64 0],some [],(neB (glE K G v u al).2,false) :: glD K G v u al false) := by kernel_rfl
end Go.Proofs.YthclipfgcgoofaaGreat
namespace Bu
open Rx Go
theorem hl_in {v u:V3} (h:(miK KkR v u).2 = 0):ObsOk (u01O (gt (miK KkR v u).1 0)) ∧ ObsOk (u01O (gt (miK KkR v u).1 3)) := by
 obtain ⟨_,k⟩ := eval_chain h
 unfold miK at *
 generalize (evalK KkR miH [u.z,u.y,u.x,v.z,v.y,v.x] 0).1 = r at *
 obtain ⟨ax,hax,ay,hay,az,haz,qx,hqx,qy,hqy,s1,hs1,qz,hqz,s2,hs2,n,hn,h0,hh0,h1,hh1,half,hhalf,l1,hl1,l2,hl2,lean,hlean,hend⟩ := k
 subst hend
 have zk:z64.k ≤ one64.k := by decide +kernel
 have kz:∀ {a b:I},rt a = true → b = keptI a z64 one64 → ObsOk (u01O b) := by
  intro a b ha hb
  subst hb
  obtain ⟨e1,e2⟩ := keptI_k a z64 one64
  have := of_decide_eq_true ha
  exact ob_c (decide_eq_true (by rw [e2]; omega)) (ob_c (decide_eq_true (by rw [e1]; omega)) (ob_c (keptI_rt ha) ob_n))
 have r1:rt h1 = true := AllR.rt hh1
 have r2:rt l2 = true := AllR.rt hl2.2
 exact ⟨kz r2 hlean,kz r1 hhalf⟩
theorem dir_z {v:V3} (h:ObsOk (dirO v)):ObsOk (u01O v.z) := ob_c (ob_h h) (ob_c (ob_h (ob_t h)) (ob_c (ob_h (ob_t (ob_t (ob_t (ob_t (ob_t (ob_t h))))))) ob_n))
theorem gg_of {c al:I} (h:ObsOk (u01O c)) (ha:ObsOk (alO al)):ObsOk (ggO c al) := ob_a h ha
end Bu
namespace Go.Proofs.YthclipfgcgoofaaGreat
open Go.RowKit Bu Rx
theorem g2_of {c d al:I} (h:ObsOk (u01O c)) (k:ObsOk (u01O d)) (ha:ObsOk (alO al)):ObsOk (g2O c d al) := ob_a k (ob_a h ha)
theorem plV (v:V3):plain v.sv = some (.agg #[.float .f64 v.x.lo.b,.float .f64 v.x.hi.b,.float .f64 v.y.lo.b,.float .f64 v.y.hi.b,.float .f64 v.z.lo.b,.float .f64 v.z.hi.b]) := rfl
theorem plI (a:I):plain (ivS a) = some (.agg #[.float .f64 a.lo.b,.float .f64 a.hi.b]) := rfl
theorem plG (g:Gl4) (k:Int):plain (.tup [g.sv,.si .i64 k]) = some (.tuple #[.agg #[.float .f64 g.ln.lo.b,.float .f64 g.ln.hi.b,.float .f64 g.hf.lo.b,.float .f64 g.hf.hi.b,.float .f64 g.v.lo.b,.float .f64 g.v.hi.b,.float .f64 g.d.lo.b,.float .f64 g.d.hi.b],.int .i64 k]) ∧ plain (.tup [g.sv,.i .i64 k]) = some (.tuple #[.agg #[.float .f64 g.ln.lo.b,.float .f64 g.ln.hi.b,.float .f64 g.hf.lo.b,.float .f64 g.hf.hi.b,.float .f64 g.v.lo.b,.float .f64 g.v.hi.b,.float .f64 g.d.lo.b,.float .f64 g.d.hi.b],.int .i64 k]) := ⟨rfl,rfl⟩
set_option maxRecDepth 100000 in
theorem glG:PlainOk Tryz.prog 139 (kGl (glR KkR GlR)) := by
 intro args ds x ds' ob h hob
 unfold kGl at h
 split at h
 ·rename_i a b c d e f g h' i j k l p q
  simp only [Option.some.injEq,Prod.mk.injEq] at h
  obtain ⟨rfl,_,rfl⟩ := h
  generalize hv:(⟨⟨a,b⟩,⟨c,d⟩,⟨e,f⟩⟩:V3) = v at *
  generalize hu:(⟨⟨g,h'⟩,⟨i,j⟩,⟨k,l⟩⟩:V3) = u at *
  generalize hal:(⟨p,q⟩:I) = al at *
  have e1:(.agg [.fl a,.fl b,.fl c,.fl d,.fl e,.fl f]:SV) = v.sv := by subst hv; rfl
  have e2:(.agg [.fl g,.fl h',.fl i,.fl j,.fl k,.fl l]:SV) = u.sv := by subst hu; rfl
  have e3:(.agg [.fl p,.fl q]:SV) = ivS al := by subst hal; rfl
  rw [e1,e2,e3]
  have oa:ObsOk (alO al) := ob_l hob
  have ov:ObsOk (dirO v) := ob_l (ob_r hob)
  have ou:ObsOk (dirO u) := ob_r (ob_r hob)
  have hargs := plains_cons (plV v) (plains_cons (plV u) (plains_cons (plI al) plains_nil))
  refine ⟨_,_,hargs,(plG _ _).1,fun w => ?_⟩
  have o':ObsOk (glO' v u al) := ob_c (not_lt (ob_h oa)) (ob_c (not_lt (ob_h (ob_t oa))) (ob_c (ob_h (ob_t (ob_t oa))) (ob_a ov ou)))
  have rA := glRunA KkR GlR v u al
  have rB := glRunB KkR GlR v u al
  have rC := glRunC KkR GlR v u al
  have rD := glRunD KkR GlR v u al
  have rE := glRunE KkR GlR v u al
  have rF := glRunF KkR GlR v u al
  have hl:(GlR.H v u).2 = 0 → ObsOk (u01O (glH GlR v u).1) := by
   intro z
   have := (hl_in (v := v) (u := u) z).1
   unfold glH lnR
   rw [show neB (GlR.H v u).2 = false by rw [z]; rfl]
   exact this
  unfold glR
  unfold glErr
  have oA:∀ t,neB (GlR.H v u).2 = t → ObsOk (glA KkR GlR v u al t) := fun t ht => ob_c ht (ob_a (ob_a ov ou) o')
  cases q1:neB (GlR.H v u).2
  ·have z1 := hl (neB_0 q1)
   have oB:∀ t,neB (GlR.d (glH GlR v u).1 al).2 = t → ObsOk (glB KkR GlR v u al t) := fun t ht => ob_c ht (ob_a (gg_of z1 oa) (oA _ q1))
   simp only [cond_false]
   cases q2:neB (GlR.d (glH GlR v u).1 al).2
   ·have oC:∀ t,neB (GlR.b v.z u.z al).2 = t → ObsOk (glC KkR GlR v u al t) := fun t ht => ob_c ht (ob_a (g2_of (dir_z ov) (dir_z ou) oa) (oB _ q2))
    simp only [cond_false]
    cases q3:neB (GlR.b v.z u.z al).2
    ·have oD:∀ t,neB (GlR.o u.z al).2 = t → ObsOk (glD KkR GlR v u al t) := fun t ht => ob_c ht (ob_a (gg_of (dir_z ou) oa) (oC _ q3))
     simp only [cond_false]
     cases q4:neB (GlR.o u.z al).2
     ·simp only [cond_false]
      cases q5:neB (glE KkR GlR v u al).2
      ·simp only [cond_false]
       generalize glV KkR GlR v u al = V at *
       exact calls_of_val goodG oracleGl 80 rF (ob_c q5 (oD _ q4)) hargs (plG _ _).2 w
      ·simp only [cond_true]
       exact calls_of_val goodG oracleGl 80 rE (ob_c q5 (oD _ q4)) hargs (plG _ _).1 w
     ·simp only [cond_true,q4]
      exact calls_of_val goodG oracleGl 80 rD (oD _ q4) hargs (plG _ _).1 w
    ·simp only [cond_true,q3]
     exact calls_of_val goodG oracleGl 80 rC (oC _ q3) hargs (plG _ _).1 w
   ·simp only [cond_true,q2]
    exact calls_of_val goodG oracleGl 80 rB (oB _ q2) hargs (plG _ _).1 w
  ·simp only [cond_true,q1]
   exact calls_of_val goodG oracleGl 80 rA (oA _ q1) hargs (plG _ _).1 w
 ·cases h
end Go.Proofs.YthclipfgcgoofaaGreat
namespace Rx
open Go Go.RowKit
theorem isSome_eq {α:Type} {x:Option α} {d:α} (h:x.isSome = true):x = some (x.getD d) := by cases x with
 | none => cases h
 | some a => rfl
def stO (P:Program) (E:ExtF) (O:OracleF) (n:Nat) (c:Code) (s:St):St := match (run P E O n).2 c s with | some (_,s') => s' | none => s
def exO (P:Program) (E:ExtF) (O:OracleF) (n:Nat) (c:Code) (s:St) (ex:Ex):Prop := (run P E O n).2 c s = some (ex,stO P E O n c s)
def rnO (P:Program) (E:ExtF) (O:OracleF) (n:Nat) (ops:Array Oper) (l:List Oper) (s:St):St := (runOps P E (run P E O n).1 ops l s).getD s
def opsOf:Code → Array Oper | .region _ ops _ => ops | _ => #[]
theorem calls_of_ends {P:Program} {g:FuncId} {fn:Func} {c:Code} {args:List SV} {x:SV} {vs:List Value} {v:Value} (hg:P.funcs[g]? = some fn) (hb:fn.body = some c) (hvs:plains args = some vs) (hv:plain x = some v) (w:World)
  (h:∀ (a:Act) (Q:Exit → Act → World → Prop),StAt Nms.no ⟨args ++ List.replicate (fn.ntmps - args.length) (.tup []),[],none,[]⟩ a w →
   (∀ m' s' a' w',resultS P fn s' = some x → StAt m' s' a' w' → Goes Nms.no [] w m' s'.M w' → Q .ret a' w') → c.wp P Q a w) :
  Calls P g vs.toArray w fun e w' => e = .returned v ∧ Below w.heap.size w w' := by
 have hvs' := dens_plains (m := Nms.no) hvs
 have hl := dens_length hvs'
 refine calls_of_wp hg hb ?_
 have htm:dens Nms.no (args ++ List.replicate (fn.ntmps - args.length) (.tup [])) = some (vs.toArray ++ Array.replicate (fn.ntmps - vs.toArray.size) undef).toList := by
  have := dens_append hvs' (dens_replicate (undef_den Nms.no) (fn.ntmps - args.length))
  rw [this]; simp [hl]
 refine h _ _ ⟨htm,rfl,MemAt.no w⟩ fun m' s' a' w' hx hst hgo => ?_
 obtain ⟨u,hu,hr⟩ := resultS_ok hst hx
 have := den_plain (m := m') hv
 rw [hu] at this
 simp only [Option.some.injEq] at this; subst this
 exact ⟨hst.df,u,hr,rfl,hgo.none⟩
end Rx
namespace Go.Proofs.YthclipfgcgoofaaGreat
open Go.RowKit Bu Rx
def nodeS (k:Int) (f:Nat → F):SV := .agg [.i .u8 k,.fl (f 0),.fl (f 1),.fl (f 2),.fl (f 3),.fl (f 4),.fl (f 5),.fl (f 6),.fl (f 7),.fl (f 8),.fl (f 9),.fl (f 10),.fl (f 11),.fl (f 12),.fl (f 13),.fl (f 14),.fl (f 15),.i .i64 0,.i .i64 0]
def leafS (k:Int) (f:Nat → F) (c:Int) (v u:V3):SV := .agg [.i .u8 k,.fl (f 0),.fl (f 1),.fl (f 2),.fl (f 3),.fl (f 4),.fl (f 5),.fl (f 6),.fl (f 7),.fl (f 8),.fl (f 9),.fl (f 10),.fl (f 11),.fl (f 12),.fl (f 13),.fl (f 14),.fl (f 15),.i .i64 0,.i .i64 0,.si .i64 c,.fl v.x.lo,.fl v.x.hi,.fl v.y.lo,.fl v.y.hi,.fl v.z.lo,.fl v.z.hi,.fl u.x.lo,.fl u.x.hi,.fl u.y.lo,.fl u.y.hi,.fl u.z.lo,.fl u.z.hi]
def kLk (o:SV → Obs):List SV → Dec → Option (SV × Dec × Obs)
 | [x],ds => some (.i .i64 0,ds,o x)
 | _,_ => none
def kLf (g:SV → I × Int) (o:SV → Obs):List SV → Dec → Option (SV × Dec × Obs)
 | [x],ds => some (.tup [.agg [.fl (g x).1.lo,.fl (g x).1.hi],.si .i64 (g x).2],ds,o x)
 | _,_ => none
structure Lfs where
 lk:SV → Obs
 g:SV → I × Int
 o:SV → Obs
noncomputable def OVl (L:Lfs) (m:Nat):OracleF := lookO [(137,plainO (kLk L.lk)),(m,plainO (kLf L.g L.o))]
noncomputable def vC:Code := bodyOf Tryz.prog 148
noncomputable def vR0:Code := seqL vC
noncomputable def vR1:Code := seqL (seqR vC)
noncomputable def vX:Code := seqL (seqR (seqR vC))
noncomputable def vR5:Code := seqL (seqR (seqR (seqR vC)))
noncomputable def vR6:Code := seqL (seqR (seqR (seqR (seqR vC))))
noncomputable def vT:Code := seqR (seqR (seqR (seqR (seqR vC))))
theorem vC_cut:vC = .seq vR0 (.seq vR1 (.seq vX (.seq vR5 (.seq vR6 vT)))) := by kernel_rfl
theorem vBody:Tryz.f148.body = some vC := by kernel_rfl
theorem vR5_ops:vR5 = .region 5 (opsOf vR5) false := by kernel_rfl
theorem vR6_ops:vR6 = .region 6 (opsOf vR6) false := by kernel_rfl
section
variable (L:Lfs) (g:Nat) (k:Int) (f:Nat → F) (c:Int) (v u:V3) (r:Nat)
def vArgs:List SV := [nodeS k f,.si .i64 c,v.sv,u.sv]
noncomputable def vs0:St := ⟨vArgs k f c v u ++ List.replicate 30 (.tup []),[],none,[]⟩
noncomputable def vs1:St := stO Tryz.prog EG (OVl L g) 60 vR0 (vs0 k f c v u)
noncomputable def vs2:St := stO Tryz.prog EG (OVl L g) 60 vR1 (vs1 L g k f c v u)
noncomputable def vs3:St := stO Tryz.prog EG (OVl L g) 60 vX (vs2 L g k f c v u)
noncomputable def vsM:St := ⟨putT (some 24) (.o (.map (some r))) (vs3 L g k f c v u).T,(vs3 L g k f c v u).M,(vs3 L g k f c v u).ds,(vs3 L g k f c v u).ob⟩
noncomputable def vs5:St := rnO Tryz.prog EG (OVl L g) 60 (opsOf vR5) ((opsOf vR5).toList.drop 5) (vsM L g k f c v u r)
noncomputable def vs6:St := rnO Tryz.prog EG (OVl L g) 60 (opsOf vR6) ((opsOf vR6).toList.take 3) (vs5 L g k f c v u r)
noncomputable def vsL:St := ⟨putT (some 29) (.fn (.func g) [] []) (vs6 L g k f c v u r).T,(vs6 L g k f c v u r).M,(vs6 L g k f c v u r).ds,(vs6 L g k f c v u r).ob⟩
noncomputable def vs7:St := rnO Tryz.prog EG (OVl L g) 60 (opsOf vR6) ((opsOf vR6).toList.drop 4) (vsL L g k f c v u r)
noncomputable def vs8:St := stO Tryz.prog EG (OVl L g) 60 vT (vs7 L g k f c v u r)
theorem ve0:exO Tryz.prog EG (OVl L g) 60 vR0 (vs0 k f c v u) .normal := by unfold exO; kernel_rfl
theorem ve1:exO Tryz.prog EG (OVl L g) 60 vR1 (vs1 L g k f c v u) .normal := by unfold exO; kernel_rfl
theorem ve2:exO Tryz.prog EG (OVl L g) 60 vX (vs2 L g k f c v u) .normal := by unfold exO; kernel_rfl
theorem ve5:(runOps Tryz.prog EG (run Tryz.prog EG (OVl L g) 60).1 (opsOf vR5) ((opsOf vR5).toList.drop 5) (vsM L g k f c v u r)).isSome = true := by kernel_rfl
theorem ve6:(runOps Tryz.prog EG (run Tryz.prog EG (OVl L g) 60).1 (opsOf vR6) ((opsOf vR6).toList.take 3) (vs5 L g k f c v u r)).isSome = true := by kernel_rfl
theorem vob1:(vs1 L g k f c v u).ob = [] := by kernel_rfl
theorem vob2:(vs2 L g k f c v u).ob = [] := by kernel_rfl
theorem vob3:(vs3 L g k f c v u).ob = L.lk (leafS k f c v u) ++ [] := by kernel_rfl
theorem vob5:(vs5 L g k f c v u r).ob = L.lk (leafS k f c v u) ++ [] := by kernel_rfl
theorem vob6:(vs6 L g k f c v u r).ob = L.lk (leafS k f c v u) ++ [] := by kernel_rfl
theorem vlen3:(vs3 L g k f c v u).T.length = 34 := by kernel_rfl
theorem vop26:oper (vs6 L g k f c v u r).T (.tmp 26) = .o (.map (some r)) := by kernel_rfl
theorem vop28:oper (vs6 L g k f c v u r).T (.tmp 28) = .i .u8 k := by kernel_rfl
end
noncomputable def o5 (i:Nat):Oper := (opsOf vR5).toList.getD i default
noncomputable def o6 (i:Nat):Oper := (opsOf vR6).toList.getD i default
theorem l5:(opsOf vR5).toList = o5 0 :: o5 1 :: o5 2 :: o5 3 :: o5 4 :: (opsOf vR5).toList.drop 5 := by kernel_rfl
theorem l6:(opsOf vR6).toList = (opsOf vR6).toList.take 3 ++ o6 3 :: (opsOf vR6).toList.drop 4 := by kernel_rfl
theorem g5:(o5 0).guard = none ∧ (o5 1).guard = none ∧ (o5 2).guard = none ∧ (o5 3).guard = none ∧ (o5 4).guard = none ∧ (o6 3).guard = none := ⟨by kernel_rfl,by kernel_rfl,by kernel_rfl,by kernel_rfl,by kernel_rfl,by kernel_rfl⟩
theorem d5:(o5 0).dst = some 24 ∧ (o5 1).dst = none ∧ (o5 2).dst = none ∧ (o5 3).dst = none ∧ (o5 4).dst = none ∧ (o6 3).dst = some 29 := ⟨by kernel_rfl,by kernel_rfl,by kernel_rfl,by kernel_rfl,by kernel_rfl,by kernel_rfl⟩
theorem p5:(o5 0).op = Op.makeMap 254 none ∧ (o5 1).op = Op.insert 254 (.tmp 24) (.const (.int .u8 1)) (.func 206) ∧ (o5 2).op = Op.insert 254 (.tmp 24) (.const (.int .u8 2)) (.func 207) ∧ (o5 3).op = Op.insert 254 (.tmp 24) (.const (.int .u8 3)) (.func 208) ∧ (o5 4).op = Op.insert 254 (.tmp 24) (.const (.int .u8 4)) (.func 209) ∧ (o6 3).op = Op.lookup 254 (.tmp 26) (.tmp 28) false := ⟨by kernel_rfl,by kernel_rfl,by kernel_rfl,by kernel_rfl,by kernel_rfl,by kernel_rfl⟩
theorem uM:Tryz.prog.underlying 254 = some (.map 5 253) := by kernel_rfl
theorem uK:Tryz.prog.underlying 5 = some (.int .u8) := by kernel_rfl
theorem zF (w:World):(zeroValue 253).run Tryz.prog w = .ok .nilFunc w := by kernel_rfl
attribute [irreducible] o5 o6 vC vR0 vR1 vX vR5 vR6 vT
set_option maxRecDepth 100000 in
set_option maxHeartbeats 1000000 in
theorem value_of {L:Lfs} {g:Nat} {k:Int} (f:Nat → F) (c:Int) (v u:V3) (hO:OracleOk Tryz.prog (OVl L g)) (hwf:(Lit.int .u8 k).wf = true)
  (hat:(tabD 206 207 208 209).atKey (.int .u8 k) (.lit (.bool false)) = .lit (.int .i64 (g:Int)))
  (h7:∀ r,(runOps Tryz.prog EG (run Tryz.prog EG (OVl L g) 60).1 (opsOf vR6) ((opsOf vR6).toList.drop 4) (vsL L g k f c v u r)).isSome = true)
  (h8:∀ r,exO Tryz.prog EG (OVl L g) 60 vT (vs7 L g k f c v u r) .ret)
  (hob7:∀ r,(vs7 L g k f c v u r).ob = L.o (leafS k f c v u) ++ (L.lk (leafS k f c v u) ++ [])) (hob8:∀ r,(vs8 L g k f c v u r).ob = L.o (leafS k f c v u) ++ (L.lk (leafS k f c v u) ++ []))
  (hres:∀ r,resultS Tryz.prog Tryz.f148 (vs8 L g k f c v u r) = some (.tup [ivS (L.g (leafS k f c v u)).1,.si .i64 (L.g (leafS k f c v u)).2]))
  (hlk:ObsOk (L.lk (leafS k f c v u))) (ho:ObsOk (L.o (leafS k f c v u))) {vs:List Value} (hvs:plains (vArgs k f c v u) = some vs) (w:World) :
  Calls Tryz.prog 148 vs.toArray w fun e w' => e = .returned (.tuple #[.agg #[.float .f64 (L.g (leafS k f c v u)).1.lo.b,.float .f64 (L.g (leafS k f c v u)).1.hi.b],.int .i64 (L.g (leafS k f c v u)).2]) ∧ Below w.heap.size w w' := by
 have hl0:ObsOk (L.lk (leafS k f c v u) ++ []) := ob_a hlk ob_n
 have hall:ObsOk (L.o (leafS k f c v u) ++ (L.lk (leafS k f c v u) ++ [])) := ob_a ho hl0
 have hcall := (run_ok goodG hO 60).1
 refine calls_of_ends (x := .tup [ivS (L.g (leafS k f c v u)).1,.si .i64 (L.g (leafS k f c v u)).2]) Tryz.func148 vBody hvs rfl w fun a Q hs hq => ?_
 rw [vC_cut]
 refine wp_seq (RunsTo.of goodG hO (ve0 L g k f c v u) (by show ObsOk (vs1 L g k f c v u).ob; rw [vob1]; exact ob_n) _ a w _ hs fun m1 a1 w1 hs1 go1 => ?_)
 refine wp_seq (RunsTo.of goodG hO (ve1 L g k f c v u) (by show ObsOk (vs2 L g k f c v u).ob; rw [vob2]; exact ob_n) m1 a1 w1 _ hs1 fun m2 a2 w2 hs2 go2 => ?_)
 refine wp_seq (RunsTo.of goodG hO (ve2 L g k f c v u) (by show ObsOk (vs3 L g k f c v u).ob; rw [vob3]; exact hl0) m2 a2 w2 _ hs2 fun m3 a3 w3 hs3 go3 => ?_)
 have hs3':StAt m3 (vs3 L g k f c v u) a3 w3 := hs3
 refine wp_seq ?_
 rw [vR5_ops]
 refine wp_region_list ?_
 rw [l5]
 have hsz:24 < a3.tmps.size := by
  have e := dens_length hs3'.tm
  rw [vlen3] at e
  have:a3.tmps.toList.length = a3.tmps.size := Array.length_toList
  omega
 obtain ⟨q0,q1,q2,q3,q4,q5⟩ := g5
 obtain ⟨e0,e1,e2,e3,e4,e5⟩ := d5
 obtain ⟨p0,p1,p2,p3,p4,p6⟩ := p5
 refine tab_made uK uM q0 q1 q2 q3 q4 p0 e0 e1 e2 e3 e4 p1 p2 p3 p4 hsz hs3' fun r aM wM own hbM hr hsM goM => ?_
 have h5 := isSome_eq (d := vsM L g k f c v u r) (ve5 L g k f c v u r)
 refine runOps_ok goodG hcall h5 (by show ObsOk (vs5 L g k f c v u r).ob; rw [vob5]; exact hl0) hsM fun m5 a5 w5 hs5 go5 => ?_
 refine wp_seq ?_
 rw [vR6_ops]
 refine wp_region_list ?_
 rw [l6]
 have h6 := isSome_eq (d := vs5 L g k f c v u r) (ve6 L g k f c v u r)
 refine runOps_then goodG hcall h6 (by show ObsOk (vs6 L g k f c v u r).ob; rw [vob6]; exact hl0) hs5 fun m6 a6 w6 hs6 go6 => ?_
 have hs6':StAt m6 (vs6 L g k f c v u r) a6 w6 := hs6
 have rM:r < wM.heap.size := own.lt
 have n3:∀ n,m3 n ≠ some r := fun n h => by have := hs3'.mem.ok.lt n r h; omega
 have n5:∀ n,m5 n ≠ some r := fun n h => by
  rcases go5.new n r h with h | h | ⟨q,h,_⟩
  ·exact n3 n h
  ·omega
  ·exact n3 q h
 have b5 := go5.fr.block r rM (fun ⟨n,h,_⟩ => n3 n h)
 have b6 := go6.fr.block r (Nat.lt_of_lt_of_le rM go5.fr.size) (fun ⟨n,h,_⟩ => n5 n h)
 have own6:w6.ownsMap Tryz.prog 5 fnR r 4 (tabD 206 207 208 209) := by
  obtain ⟨es,cl,hb,rest⟩ := own
  exact ⟨es,cl,(b6.trans b5).trans hb,rest⟩
 have v26:a6.eval (.tmp 26) = .map (some r) := by
  have h := oper_ok hs6'.tm (.tmp 26)
  rw [vop26] at h
  simp [den] at h; exact h.symm
 have v28:a6.eval (.tmp 28) = .int .u8 k := by
  have h := oper_ok hs6'.tm (.tmp 28)
  rw [vop28] at h
  simp [den] at h; exact h.symm
 refine wpList_lookup_fn w6 q5 _ _ _ p6 _ _ (Go.Maps.int_keyed uK) uM (zF w6) r 4 _ v26 own6 _ _ v28 (Go.Maps.keyOf_int_mk uK hwf) g hat ?_
 rw [e5]
 have hsL:StAt m6 (vsL L g k f c v u r) (a6.put (some 29) (.func (.func g) #[] #[])) w6 := ⟨putT_ok hs6'.tm (x := .fn (.func g) [] []) (by simp [den,dens]) (some 29),hs6'.df,hs6'.mem⟩
 have h7' := isSome_eq (d := vsL L g k f c v u r) (h7 r)
 refine runOps_ok goodG hcall h7' (by show ObsOk (vs7 L g k f c v u r).ob; rw [hob7]; exact hall) hsL fun m7 a7 w7 hs7 go7 => ?_
 refine RunsTo.of goodG hO (h8 r) (by show ObsOk (vs8 L g k f c v u r).ob; rw [hob8]; exact hall) m7 a7 w7 _ hs7 fun m8 a8 w8 hs8 go8 => ?_
 exact hq m8 _ a8 w8 (hres r) hs8 (((((((go1.trans go2).trans go3).trans goM).trans go5).trans go6).trans go7).trans go8)
end Go.Proofs.YthclipfgcgoofaaGreat
namespace Bu
open Rx Go
def q3E (f b:Nat → F) (i:Nat):Bool := decide ((f i).k = (b i).k) && (decide ((f (i + 1)).k = (b (i + 1)).k) && (decide ((f (i + 2)).k = (b (i + 2)).k) && true))
def eqNd (f b:Nat → F):Bool := q3E f b 0 && (q3E f b 3 && (q3E f b 6 && (q3E f b 9 && (decide ((f 12).k = (b 12).k) && (decide ((f 13).k = (b 13).k) && (decide ((f 14).k = (b 14).k) && (decide ((f 15).k = (b 15).k) && ((0:Int) == 0 && ((0:Int) == 0 && true)))))))))
def bare1 (f:Nat → F) (i:Nat):F := bif Nat.blt i 3 then f i else z64
def bare2 (f:Nat → F) (i:Nat):F := bif Nat.blt i 3 || Nat.beq i 12 then f i else z64
def bare3 (f:Nat → F) (i:Nat):F := bif Nat.beq i 13 || Nat.beq i 14 then f i else z64
def bare4 (f:Nat → F) (i:Nat):F := bif Nat.beq i 13 || (Nat.blt 5 i && Nat.blt i 12) then f i else z64
def rngO (x l h:F) (o:Obs):Obs := (decide (h.k < x.k),false) :: (decide (x.k < l.k),false) :: o
def rtO1 (f:Nat → F):Obs := (eqNd f (bare1 f),true) :: rngO (f 2) z64 one64 (rngO (f 1) z64 one64 (rngO (f 0) z64 one64 []))
def rtO2 (f:Nat → F):Obs := (eqNd f (bare2 f),true) :: rngO (f 12) z64 one64 (rngO (f 2) z64 one64 (rngO (f 1) z64 one64 (rngO (f 0) z64 one64 [])))
def rtO3 (f:Nat → F):Obs := (eqNd f (bare3 f),true) :: rngO (f 14) minIo four64 (rngO (f 13) minA one64 [])
def rtO4 (f:Nat → F):Obs := (eqNd f (bare4 f),true) :: rngO (f 11) minMt maxMt (rngO (f 10) minMt maxMt (rngO (f 9) minMt maxMt (rngO (f 8) minMt maxMt (rngO (f 7) minMt maxMt (rngO (f 6) minMt maxMt (rngO (f 13) minA one64 []))))))
def rtOb (k:Int) (f:Nat → F):Obs := match k with
 | 1 => rtO1 f
 | 2 => rtO2 f
 | 3 => rtO3 f
 | 4 => rtO4 f
 | _ => [(false,true)]
def orA:List Op := [.mul 2 1,.sub 1 0,.kept mone64 one64 0,.lit (PIc),.num (two64),.num (one64),.div 2 1,.num (three64),.div 3 0,.sub 2 0,.mul 0 13,.add 7 0,.div 6 0,.mul 16 0,.mul 0 11,.add 2 0,.mul 20 0,.kept z64 one64 0]
def orB:List Op := [.mul 2 1,.sub 1 0,.max 4 3,.div 1 0,.kept mone64 one64 0,.lit (PIc),.num (two64),.num (one64),.div 2 1,.num (three64),.div 3 0,.sub 2 0,.mul 0 15,.add 7 0,.div 6 0,.mul 18 0,.mul 0 11,.add 2 0,.mul 22 0,.kept z64 one64 0]
def posH (a:I):I := ⟨z64,a.hi⟩
def negH (a:I):I := ⟨a.lo,z64⟩
def orC:List Op := [.mul 2 1,.sub 1 0,.fn (posH) 0,.max 5 4,.div 1 0,.fn (negH) 3,.fn2 (hullI) 0 1,.kept mone64 one64 0,.lit (PIc),.num (two64),.num (one64),.div 2 1,.num (three64),.div 3 0,.sub 2 0,.mul 0 18,.add 7 0,.div 6 0,.mul 21 0,.mul 0 11,.add 2 0,.mul 25 0,.kept z64 one64 0]
def orQ (K:Kk) (i o d:I):I := (K.sub (K.mul 0 i o).2 d (K.mul 0 i o).1).1
def orE (K:Kk) (l:List Op) (rho sg i o d:I):List I × Int := evalK K l [d,o,i,sg,rho] 0
def orOb (rho sg i o d:I):Obs := rng2 d mone64 (rng2 o z64 (rng2 i z64 (rng2 sg z64 (rng2 rho z64 [(rt d,true),(rt o,true),(rt i,true),(rt sg,true),(rt rho,true)]))))
where rng2 (a:I) (l:F) (o:Obs):Obs := (decide (one64.k < a.hi.k),false) :: (decide (a.lo.k < l.k),false) :: o
end Bu
namespace Go.Proofs.YthclipfgcgoofaaGreat
open Go.RowKit Bu Rx
theorem rtRun1 (K:Kk) (f:Nat → F):valR ((run Tryz.prog EG (lookO (OCL K)) 80).1 198 [nodeS 1 f] [] (some [false,false,false,false,false,false,true])) = some (.b true,some [],rtO1 f) := by kernel_rfl
theorem rtRun2 (K:Kk) (f:Nat → F):valR ((run Tryz.prog EG (lookO (OCL K)) 80).1 198 [nodeS 2 f] [] (some [false,false,false,false,false,false,false,false,true])) = some (.b true,some [],rtO2 f) := by kernel_rfl
theorem rtRun3 (K:Kk) (f:Nat → F):valR ((run Tryz.prog EG (lookO (OCL K)) 80).1 198 [nodeS 3 f] [] (some [false,false,false,false,true])) = some (.b true,some [],rtO3 f) := by kernel_rfl
theorem rtRun4 (K:Kk) (f:Nat → F):valR ((run Tryz.prog EG (lookO (OCL K)) 80).1 198 [nodeS 4 f] [] (some [false,false,false,false,false,false,false,false,false,false,false,false,false,false,true])) = some (.b true,some [],rtO4 f) := by kernel_rfl
def OOr (K:Kk):OracleF := lookO (OCL K ++ [(153,plainO (oI2 hullI))])
def t15f:List Bool := [true,true,true,true,true,false,false,false,false,false,false,false,false,false,false]
theorem orRunA (K:Kk) (r s i o d:I) (b:Bool):valR ((run Tryz.prog EG (OOr K) 80).1 243 [ivS r,ivS s,ivS i,ivS o,ivS d] [] (some (t15f ++ [true,b]))) = some (.tup (bif b then [ivS I.zero,.si .i64 (orE K orA r s i o d).2] else [ivS (gt (orE K orA r s i o d).1 0),.i .i64 0]),some [],(neB (orE K orA r s i o d).2,b) :: (decide ((orQ K i o d).hi.k ≤ z64.k),true) :: orOb r s i o d) := by cases b <;> kernel_rfl
theorem orRunB (K:Kk) (r s i o d:I) (b:Bool):valR ((run Tryz.prog EG (OOr K) 80).1 243 [ivS r,ivS s,ivS i,ivS o,ivS d] [] (some (t15f ++ [false,true,b]))) = some (.tup (bif b then [ivS I.zero,.si .i64 (orE K orB r s i o d).2] else [ivS (gt (orE K orB r s i o d).1 0),.i .i64 0]),some [],(neB (orE K orB r s i o d).2,b) :: (decide (z64.k ≤ (orQ K i o d).lo.k),true) :: (decide ((orQ K i o d).hi.k ≤ z64.k),false) :: orOb r s i o d) := by cases b <;> kernel_rfl
theorem orRunC (K:Kk) (r s i o d:I) (b:Bool):valR ((run Tryz.prog EG (OOr K) 80).1 243 [ivS r,ivS s,ivS i,ivS o,ivS d] [] (some (t15f ++ [false,false,b]))) = some (.tup (bif b then [ivS I.zero,.si .i64 (orE K orC r s i o d).2] else [ivS (gt (orE K orC r s i o d).1 0),.i .i64 0]),some [],(neB (orE K orC r s i o d).2,b) :: (decide (z64.k ≤ (orQ K i o d).lo.k),false) :: (decide ((orQ K i o d).hi.k ≤ z64.k),false) :: orOb r s i o d) := by cases b <;> kernel_rfl
end Go.Proofs.YthclipfgcgoofaaGreat
namespace Bu
open Rx Go
def dtP:List Op := [.mul 5 2,.mul 5 2,.add 1 0,.mul 6 3,.add 1 0,.kept mone64 one64 0]
def dtK (K:Kk) (v u:V3):List I × Int := evalK K dtP [u.z,u.y,u.x,v.z,v.y,v.x] 0
def pF (x:F):I := ⟨x,x⟩
structure Gm where
 gl:V3 → V3 → I → Gl4 × Int
 dl:I → I → I × Int
 cd:I → I → I → I × Int
 lb:I → I × Int
 od:I → I → I → I → I → I × Int
def kI5 (f:I → I → I → I → I → I × Int) (o:I → I → I → I → I → Obs):List SV → Dec → Option (SV × Dec × Obs)
 | [.agg [.fl a,.fl b],.agg [.fl c,.fl d],.agg [.fl e,.fl g],.agg [.fl h,.fl i],.agg [.fl j,.fl k]],ds => some (.tup [.agg [.fl (f ⟨a,b⟩ ⟨c,d⟩ ⟨e,g⟩ ⟨h,i⟩ ⟨j,k⟩).1.lo,.fl (f ⟨a,b⟩ ⟨c,d⟩ ⟨e,g⟩ ⟨h,i⟩ ⟨j,k⟩).1.hi],.si .i64 (f ⟨a,b⟩ ⟨c,d⟩ ⟨e,g⟩ ⟨h,i⟩ ⟨j,k⟩).2],ds,o ⟨a,b⟩ ⟨c,d⟩ ⟨e,g⟩ ⟨h,i⟩ ⟨j,k⟩)
 | _,_ => none
def orO5 (r s i o d:I):Obs := bndO r z64 one64 ++ (bndO s z64 one64 ++ (bndO i z64 one64 ++ (bndO o z64 one64 ++ bndO d mone64 one64)))
def orR (K:Kk) (r s i o d:I):I × Int := bif decide ((orQ K i o d).hi.k ≤ z64.k) then lnR (orE K orA r s i o d) 0 else bif decide (z64.k ≤ (orQ K i o d).lo.k) then lnR (orE K orB r s i o d) 0 else lnR (orE K orC r s i o d) 0
def glM (K:Kk) (g:Gl4 × Int) (r:I × Int):I × Int := bif neB g.2 then (I.zero,g.2) else bif neB r.2 then (I.zero,r.2) else bif neB (K.mul 0 g.1.v r.1).2 then (I.zero,(K.mul 0 g.1.v r.1).2) else ((K.mul 0 g.1.v r.1).1,0)
def meL (G:Gm) (f:Nat → F) (c:Nat):I × Int := G.lb (pF (f c))
def meO (K:Kk) (G:Gm) (f:Nat → F) (c:Nat) (v u:V3):I × Int := bif neB (dtK K v u).2 then (I.zero,(dtK K v u).2) else G.od (pF (f c)) (pF (f 12)) v.z u.z (gt (dtK K v u).1 0)
def meP (K:Kk) (G:Gm) (f:Nat → F) (v u:V3):I × Int := glM K (G.gl v u (pF (f 13))) (G.dl (G.gl v u (pF (f 13))).1.hf (pF (f 14)))
def meM (K:Kk) (G:Gm) (f:Nat → F) (c:Nat) (v u:V3):I × Int := glM K (G.gl v u (pF (f 13))) (G.cd (G.gl v u (pF (f 13))).1.hf (pF (f (6 + c))) (pF (f (9 + c))))
end Bu
namespace Go.Proofs.YthclipfgcgoofaaGreat
open Go.RowKit Bu Rx
def leafI (k:Int) (f:Nat → F) (c:Int) (v u:V3):SV := .agg [.i .u8 k,.fl (f 0),.fl (f 1),.fl (f 2),.fl (f 3),.fl (f 4),.fl (f 5),.fl (f 6),.fl (f 7),.fl (f 8),.fl (f 9),.fl (f 10),.fl (f 11),.fl (f 12),.fl (f 13),.fl (f 14),.fl (f 15),.i .i64 0,.i .i64 0,.i .i64 c,.fl v.x.lo,.fl v.x.hi,.fl v.y.lo,.fl v.y.hi,.fl v.z.lo,.fl v.z.hi,.fl u.x.lo,.fl u.x.hi,.fl u.y.lo,.fl u.y.hi,.fl u.z.lo,.fl u.z.hi]
def ndF (a0 a1 a2 a3 a4 a5 a6 a7 a8 a9 a10 a11 a12 a13 a14 a15:F) (i:Nat):F := [a0,a1,a2,a3,a4,a5,a6,a7,a8,a9,a10,a11,a12,a13,a14,a15].getD i z64
def kRt (o:Int → (Nat → F) → Obs):List SV → Dec → Option (SV × Dec × Obs)
 | [.agg [.i .u8 k,.fl a0,.fl a1,.fl a2,.fl a3,.fl a4,.fl a5,.fl a6,.fl a7,.fl a8,.fl a9,.fl a10,.fl a11,.fl a12,.fl a13,.fl a14,.fl a15,.i .i64 0,.i .i64 0]],ds => some (.b true,ds,o k (ndF a0 a1 a2 a3 a4 a5 a6 a7 a8 a9 a10 a11 a12 a13 a14 a15))
 | _,_ => none
theorem rtK:PlainOk Tryz.prog 198 (kRt rtOb) := by
 intro args ds x ds' ob h ho
 unfold kRt at h
 split at h
 ·rename_i k a0 a1 a2 a3 a4 a5 a6 a7 a8 a9 a10 a11 a12 a13 a14 a15
  simp only [Option.some.injEq,Prod.mk.injEq] at h
  obtain ⟨rfl,_,rfl⟩ := h
  generalize hf:ndF a0 a1 a2 a3 a4 a5 a6 a7 a8 a9 a10 a11 a12 a13 a14 a15 = f at ho
  have e:(.agg [.i .u8 k,.fl a0,.fl a1,.fl a2,.fl a3,.fl a4,.fl a5,.fl a6,.fl a7,.fl a8,.fl a9,.fl a10,.fl a11,.fl a12,.fl a13,.fl a14,.fl a15,.i .i64 0,.i .i64 0]:SV) = nodeS k f := by subst hf; rfl
  rw [e]
  refine ⟨[.agg #[.int .u8 k,.float .f64 (f 0).b,.float .f64 (f 1).b,.float .f64 (f 2).b,.float .f64 (f 3).b,.float .f64 (f 4).b,.float .f64 (f 5).b,.float .f64 (f 6).b,.float .f64 (f 7).b,.float .f64 (f 8).b,.float .f64 (f 9).b,.float .f64 (f 10).b,.float .f64 (f 11).b,.float .f64 (f 12).b,.float .f64 (f 13).b,.float .f64 (f 14).b,.float .f64 (f 15).b,.int .i64 0,.int .i64 0]],_,rfl,rfl,fun w => ?_⟩
  unfold rtOb at ho
  split at ho
  ·exact calls_of_val goodG oracleCL 80 (rtRun1 KkR f) ho rfl rfl w
  ·exact calls_of_val goodG oracleCL 80 (rtRun2 KkR f) ho rfl rfl w
  ·exact calls_of_val goodG oracleCL 80 (rtRun3 KkR f) ho rfl rfl w
  ·exact calls_of_val goodG oracleCL 80 (rtRun4 KkR f) ho rfl rfl w
  ·exact absurd (ob_h ho) (by simp)
 ·cases h
def OLo (o:Int → (Nat → F) → Obs) (r:I → Bool):OracleF := lookO [(198,plainO (kRt o)),(62,plainO (kBI r))]
theorem oracleLo:OracleOk Tryz.prog (OLo rtOb rt) := .cons rtK.of (.cons irtK.of (.nil _))
def t20:List Bool := [true,true,true,true,true,true,true,true,true,true,true,true,true,true,true,true,true,true,true,true]
end Go.Proofs.YthclipfgcgoofaaGreat
namespace Bu
open Rx Go
structure Lf where
 k:Int
 f:Nat → F
 c:Int
 v:V3
 u:V3
end Bu
namespace Go.Proofs.YthclipfgcgoofaaGreat
open Go.RowKit Bu Rx
def etaF (f:Nat → F):Nat → F := ndF (f 0) (f 1) (f 2) (f 3) (f 4) (f 5) (f 6) (f 7) (f 8) (f 9) (f 10) (f 11) (f 12) (f 13) (f 14) (f 15)
def lfOf:SV → Option Lf
 | .agg [.i .u8 k, .fl a0, .fl a1, .fl a2, .fl a3, .fl a4, .fl a5, .fl a6, .fl a7, .fl a8, .fl a9, .fl a10, .fl a11, .fl a12, .fl a13, .fl a14, .fl a15, .i .i64 0, .i .i64 0, ch, .fl p0, .fl p1, .fl p2, .fl p3, .fl p4, .fl p5, .fl r0, .fl r1, .fl r2, .fl r3, .fl r4, .fl r5] => match intS ch with
   | some (.i64,c) => some ⟨k,ndF a0 a1 a2 a3 a4 a5 a6 a7 a8 a9 a10 a11 a12 a13 a14 a15,c,⟨⟨p0,p1⟩,⟨p2,p3⟩,⟨p4,p5⟩⟩,⟨⟨r0,r1⟩,⟨r2,r3⟩,⟨r4,r5⟩⟩⟩
   | _ => none
 | _ => none
theorem lfOf_S (k:Int) (f:Nat → F) (c:Int) (v u:V3):lfOf (leafS k f c v u) = some ⟨k,etaF f,c,v,u⟩ := rfl
def leafV (l:Lf):Value := .agg #[.int .u8 l.k,.float .f64 (l.f 0).b,.float .f64 (l.f 1).b,.float .f64 (l.f 2).b,.float .f64 (l.f 3).b,.float .f64 (l.f 4).b,.float .f64 (l.f 5).b,.float .f64 (l.f 6).b,.float .f64 (l.f 7).b,.float .f64 (l.f 8).b,.float .f64 (l.f 9).b,.float .f64 (l.f 10).b,.float .f64 (l.f 11).b,.float .f64 (l.f 12).b,.float .f64 (l.f 13).b,.float .f64 (l.f 14).b,.float .f64 (l.f 15).b,.int .i64 0,.int .i64 0,.int .i64 l.c,.float .f64 l.v.x.lo.b,.float .f64 l.v.x.hi.b,.float .f64 l.v.y.lo.b,.float .f64 l.v.y.hi.b,.float .f64 l.v.z.lo.b,.float .f64 l.v.z.hi.b,.float .f64 l.u.x.lo.b,.float .f64 l.u.x.hi.b,.float .f64 l.u.y.lo.b,.float .f64 l.u.y.hi.b,.float .f64 l.u.z.lo.b,.float .f64 l.u.z.hi.b]
theorem lfOf_plain {x:SV} {l:Lf} (h:lfOf x = some l):plains [x] = some [leafV l] := by
 unfold lfOf at h
 split at h
 ·split at h
  ·rename_i c hc
   simp only [Option.some.injEq] at h
   subst h
   have hp := intS_plain hc
   simp only [plains,plain,hp,Option.bind_some,Option.map_some]
   rfl
  ·cases h
 ·cases h
theorem leaf_pl (l:Lf):plains [leafS l.k l.f l.c l.v l.u] = some [leafV l] ∧ plains [leafI l.k l.f l.c l.v l.u] = some [leafV l] := ⟨rfl,rfl⟩
def lfB (o:Lf → Obs) (x:SV):Obs := match lfOf x with
 | some l => o l
 | none => [(false,true)]
def lfG (g:Lf → I × Int) (x:SV):I × Int := match lfOf x with
 | some l => g l
 | none => (I.zero,0)
theorem lfB_in {o:Lf → Obs} {x:SV} (h:ObsOk (lfB o x)):∃ l,lfOf x = some l ∧ ObsOk (o l) := by
 unfold lfB at h
 split at h
 ·rename_i l e; exact ⟨l,e,h⟩
 ·exact absurd (ob_h h) (by simp)
theorem kLk_of {m:FuncId} {o:Lf → Obs} (h:∀ l,ObsOk (o l) → ∀ w,Calls Tryz.prog m #[leafV l] w fun e w' => e = .returned (.int .i64 0) ∧ Below w.heap.size w w'):PlainOk Tryz.prog m (kLk (lfB o)) := by
 intro args ds x ds' ob hk ho
 unfold kLk at hk
 split at hk
 ·rename_i y
  simp only [Option.some.injEq,Prod.mk.injEq] at hk
  obtain ⟨rfl,_,rfl⟩ := hk
  obtain ⟨l,e,ol⟩ := lfB_in ho
  exact ⟨_,_,lfOf_plain e,rfl,fun w => h l ol w⟩
 ·cases hk
theorem kLf_of {m:FuncId} {g:Lf → I × Int} {o:Lf → Obs} (h:∀ l,ObsOk (o l) → ∀ w,Calls Tryz.prog m #[leafV l] w fun e w' => e = .returned (.tuple #[.agg #[.float .f64 (g l).1.lo.b,.float .f64 (g l).1.hi.b],.int .i64 (g l).2]) ∧ Below w.heap.size w w'):PlainOk Tryz.prog m (kLf (lfG g) (lfB o)) := by
 intro args ds x ds' ob hk ho
 unfold kLf at hk
 split at hk
 ·rename_i y
  simp only [Option.some.injEq,Prod.mk.injEq] at hk
  obtain ⟨rfl,_,rfl⟩ := hk
  obtain ⟨l,e,ol⟩ := lfB_in ho
  refine ⟨_,_,lfOf_plain e,rfl,fun w => ?_⟩
  have e2:lfG g y = g l := by unfold lfG; rw [e]
  rw [e2]
  exact h l ol w
 ·cases hk
theorem lookRun (o:Int → (Nat → F) → Obs) (r:I → Bool) (k:Int) (f:Nat → F) (c:Int) (v u:V3):valR ((run Tryz.prog EG (OLo o r) 80).1 137 [leafS k f c v u] [] (some t20)) = some (.i .i64 0,some [],[(decide (u.z.hi.k ≤ one64.k),true),(decide (z64.k ≤ u.z.lo.k),true),(decide (u.y.hi.k ≤ one64.k),true),(decide (mone64.k ≤ u.y.lo.k),true),(decide (u.x.hi.k ≤ one64.k),true),(decide (mone64.k ≤ u.x.lo.k),true),(r u.z,true),(r u.y,true),(r u.x,true),(decide (v.z.hi.k ≤ one64.k),true),(decide (z64.k ≤ v.z.lo.k),true),(decide (v.y.hi.k ≤ one64.k),true),(decide (mone64.k ≤ v.y.lo.k),true),(decide (v.x.hi.k ≤ one64.k),true),(decide (mone64.k ≤ v.x.lo.k),true),(r v.z,true),(r v.y,true),(r v.x,true),(decide (c < 3),true),(decide (0 ≤ c),true)] ++ (o k (etaF f) ++ [])) := by kernel_rfl
def lkOl (l:Lf):Obs := dirO l.u ++ (dirO l.v ++ ([(decide (l.c < 3),true),(decide (0 ≤ l.c),true)] ++ rtOb l.k (etaF l.f)))
theorem lookK:PlainOk Tryz.prog 137 (kLk (lfB lkOl)) := kLk_of fun l ho w =>
 calls_of_val goodG oracleLo 80 (lookRun rtOb rt l.k l.f l.c l.v l.u) (ob_a (a := dirO l.u ++ (dirO l.v ++ [(decide (l.c < 3),true),(decide (0 ≤ l.c),true)])) (ob_a (ob_l ho) (ob_a (ob_l (ob_r ho)) (ob_l (ob_r (ob_r ho))))) (ob_a (ob_r (ob_r (ob_r ho))) ob_n)) (leaf_pl l).1 rfl w
def OMe (K:Kk) (G:Gm):OracleF := lookO (OCL K ++ [(139,plainO (kGl G.gl)),(68,plainO (kI2 G.dl fdO)),(247,plainO (kI3 G.cd fcO)),(199,plainO (kI1 G.lb u01O)),(243,plainO (kI5 G.od orO5))])
theorem meLRun (K:Kk) (G:Gm) (k:Int) (f:Nat → F) (v u:V3) (c:Nat) (hc:c < 3):valR ((run Tryz.prog EG (OMe K G) 80).1 206 [leafI k f c v u] [] (some [])) = some (.tup [ivS (meL G f c).1,.si .i64 (meL G f c).2],some [],u01O (pF (f c))) := by
 rcases (by omega:c = 0 ∨ c = 1 ∨ c = 2) with rfl | rfl | rfl <;> kernel_rfl
theorem meORun1 (K:Kk) (G:Gm) (k:Int) (f:Nat → F) (v u:V3) (c:Nat) (hc:c < 3):valR ((run Tryz.prog EG (OMe K G) 80).1 207 [leafI k f c v u] [] (some [true])) = some (.tup [ivS I.zero,.si .i64 (dtK K v u).2],some [],[(neB (dtK K v u).2,true)]) := by
 rcases (by omega:c = 0 ∨ c = 1 ∨ c = 2) with rfl | rfl | rfl <;> kernel_rfl
theorem meORun0 (K:Kk) (G:Gm) (k:Int) (f:Nat → F) (v u:V3) (c:Nat) (hc:c < 3):valR ((run Tryz.prog EG (OMe K G) 80).1 207 [leafI k f c v u] [] (some [false])) = some (.tup [ivS (G.od (pF (f c)) (pF (f 12)) v.z u.z (gt (dtK K v u).1 0)).1,.si .i64 (G.od (pF (f c)) (pF (f 12)) v.z u.z (gt (dtK K v u).1 0)).2],some [],orO5 (pF (f c)) (pF (f 12)) v.z u.z (gt (dtK K v u).1 0) ++ [(neB (dtK K v u).2,false)]) := by
 rcases (by omega:c = 0 ∨ c = 1 ∨ c = 2) with rfl | rfl | rfl <;> kernel_rfl
def mpO (G:Gm) (f:Nat → F) (v u:V3) (b:Bool):Obs := (neB (G.gl v u (pF (f 13))).2,b) :: glO v u (pF (f 13))
def mpB (G:Gm) (f:Nat → F) (v u:V3) (b:Bool):Obs := (neB (G.dl (G.gl v u (pF (f 13))).1.hf (pF (f 14))).2,b) :: (fdO (G.gl v u (pF (f 13))).1.hf (pF (f 14)) ++ mpO G f v u false)
theorem mePRunA (K:Kk) (G:Gm) (k:Int) (f:Nat → F) (c:Int) (v u:V3):valR ((run Tryz.prog EG (OMe K G) 80).1 208 [leafI k f c v u] [] (some [true])) = some (.tup [ivS I.zero,.si .i64 (G.gl v u (pF (f 13))).2],some [],mpO G f v u true) := by kernel_rfl
theorem mePRunB (K:Kk) (G:Gm) (k:Int) (f:Nat → F) (c:Int) (v u:V3):valR ((run Tryz.prog EG (OMe K G) 80).1 208 [leafI k f c v u] [] (some [false,true])) = some (.tup [ivS I.zero,.si .i64 (G.dl (G.gl v u (pF (f 13))).1.hf (pF (f 14))).2],some [],mpB G f v u true) := by kernel_rfl
def meX (K:Kk) (G:Gm) (f:Nat → F) (v u:V3):I × Int := K.mul 0 (G.gl v u (pF (f 13))).1.v (G.dl (G.gl v u (pF (f 13))).1.hf (pF (f 14))).1
theorem mePRunC (K:Kk) (G:Gm) (k:Int) (f:Nat → F) (c:Int) (v u:V3) (b:Bool):valR ((run Tryz.prog EG (OMe K G) 80).1 208 [leafI k f c v u] [] (some [false,false,b])) = some (.tup (bif b then [ivS I.zero,.si .i64 (meX K G f v u).2] else [ivS (meX K G f v u).1,.i .i64 0]),some [],(neB (meX K G f v u).2,b) :: mpB G f v u false) := by cases b <;> kernel_rfl
def mmB (G:Gm) (f:Nat → F) (c:Nat) (v u:V3) (b:Bool):Obs := (neB (G.cd (G.gl v u (pF (f 13))).1.hf (pF (f (6 + c))) (pF (f (9 + c)))).2,b) :: (fcO (G.gl v u (pF (f 13))).1.hf (pF (f (6 + c))) (pF (f (9 + c))) ++ mpO G f v u false)
def meY (K:Kk) (G:Gm) (f:Nat → F) (c:Nat) (v u:V3):I × Int := K.mul 0 (G.gl v u (pF (f 13))).1.v (G.cd (G.gl v u (pF (f 13))).1.hf (pF (f (6 + c))) (pF (f (9 + c)))).1
theorem meMRunA (K:Kk) (G:Gm) (k:Int) (f:Nat → F) (c:Int) (v u:V3):valR ((run Tryz.prog EG (OMe K G) 80).1 209 [leafI k f c v u] [] (some [true])) = some (.tup [ivS I.zero,.si .i64 (G.gl v u (pF (f 13))).2],some [],mpO G f v u true) := by kernel_rfl
theorem meMRunB (K:Kk) (G:Gm) (k:Int) (f:Nat → F) (v u:V3) (c:Nat) (hc:c < 3):valR ((run Tryz.prog EG (OMe K G) 80).1 209 [leafI k f c v u] [] (some [false,true])) = some (.tup [ivS I.zero,.si .i64 (G.cd (G.gl v u (pF (f 13))).1.hf (pF (f (6 + c))) (pF (f (9 + c)))).2],some [],mmB G f c v u true) := by
 rcases (by omega:c = 0 ∨ c = 1 ∨ c = 2) with rfl | rfl | rfl <;> kernel_rfl
theorem meMRunC (K:Kk) (G:Gm) (k:Int) (f:Nat → F) (v u:V3) (c:Nat) (hc:c < 3) (b:Bool):valR ((run Tryz.prog EG (OMe K G) 80).1 209 [leafI k f c v u] [] (some [false,false,b])) = some (.tup (bif b then [ivS I.zero,.si .i64 (meY K G f c v u).2] else [ivS (meY K G f c v u).1,.i .i64 0]),some [],(neB (meY K G f c v u).2,b) :: mmB G f c v u false) := by
 rcases (by omega:c = 0 ∨ c = 1 ∨ c = 2) with rfl | rfl | rfl <;> cases b <;> kernel_rfl
end Go.Proofs.YthclipfgcgoofaaGreat
namespace Bu
open Rx Go
theorem dt_in {v u:V3} (h:(dtK KkR v u).2 = 0):ObsOk (bndO (gt (dtK KkR v u).1 0) mone64 one64) := by
 obtain ⟨_,k⟩ := eval_chain h
 unfold dtK at *
 generalize (evalK KkR dtP [u.z,u.y,u.x,v.z,v.y,v.x] 0).1 = r at *
 obtain ⟨p1,hp1,p2,hp2,s1,hs1,p3,hp3,s2,hs2,dot,hdot,hend⟩ := k
 subst hend
 have zk:mone64.k ≤ one64.k := by decide +kernel
 have r2:rt s2 = true := dn_up hs2.1 hs2.2 (by
  have a:rt s1 = true := dn_up hs1.1 hs1.2 (by
   have b:rt p1 = true := AllR.rt hp1
   have c:rt p2 = true := AllR.rt hp2
   have := rt_le b; have := rt_le c
   show p1.lo.q + p2.lo.q ≤ p1.hi.q + p2.hi.q
   grind)
  have d:rt p3 = true := AllR.rt hp3
  have := rt_le a; have := rt_le d
  show s1.lo.q + p3.lo.q ≤ s1.hi.q + p3.hi.q
  grind)
 have hd:dot = keptI s2 mone64 one64 := hdot
 show ObsOk (bndO dot mone64 one64)
 rw [hd]
 obtain ⟨e1,e2⟩ := keptI_k s2 mone64 one64
 exact ob_c (decide_eq_true (by rw [e2]; omega)) (ob_c (decide_eq_true (by rw [e1]; omega)) (ob_c (keptI_rt r2) ob_n))
end Bu
namespace Go.Proofs.YthclipfgcgoofaaGreat
open Go.RowKit Bu Rx
def GmR:Gm := ⟨glR KkR GlR,fun c n => lnR (fdK KkR c n) 0,fun c m n => lnR (fcK KkR c m n) 0,fun r => lnR (lbK KkR r) 0,orR KkR⟩
theorem gl_half {v u:V3} {al:I} (h:neB (glR KkR GlR v u al).2 = false):ObsOk (u01O (glR KkR GlR v u al).1.hf) := by
 unfold glR at h ⊢
 cases c:neB (glErr KkR GlR v u al)
 ·rw [cond_false]
  have e:(GlR.H v u).2 = 0 := by
   unfold glErr at c
   cases c2:neB (GlR.H v u).2
   ·exact neB_0 c2
   ·rw [c2,cond_true,c2] at c; cases c
  have k := (hl_in (v := v) (u := u) e).2
  show ObsOk (u01O (lnR (GlR.H v u) 3).1)
  unfold lnR
  rw [show neB (GlR.H v u).2 = false by rw [e]; rfl]
  exact k
 ·rw [c,cond_true,c] at h; cases h
theorem oracleOOr:OracleOk Tryz.prog (OOr KkR) :=
 .cons addC <| .cons subC <| .cons mulC <| .cons divC <| .cons cmax_I <| .cons sqrC <| .cons csqrt_I <|
 .cons negC <|
 .cons numC <| .cons irtK.of <| .cons rightG.of <| .cons absG.of <| .cons vwG.of <| .cons piG.of <| .cons hullG.of <| .nil _
theorem orO_ok {r s i o d:I} (h:ObsOk (orO5 r s i o d)):ObsOk (orOb r s i o d) := by
 have a := ob_l h; have b := ob_l (ob_r h); have c := ob_l (ob_r (ob_r h)); have e := ob_l (ob_r (ob_r (ob_r h))); have g := ob_r (ob_r (ob_r (ob_r h)))
 have two:∀ {x:I} {l:F} {p:Obs},ObsOk (bndO x l one64) → ObsOk p → ObsOk ((decide (one64.k < x.hi.k),false) :: (decide (x.lo.k < l.k),false) :: p) := fun h k => ob_c (not_lt (ob_h h)) (ob_c (not_lt (ob_h (ob_t h))) k)
 have rr:∀ {x:I} {l:F},ObsOk (bndO x l one64) → rt x = true := fun h => ob_h (ob_t (ob_t h))
 exact two g (two e (two c (two b (two a (ob_c (rr g) (ob_c (rr e) (ob_c (rr c) (ob_c (rr b) (ob_c (rr a) ob_n)))))))))
theorem orG_of (K:Kk) (hO:OracleOk Tryz.prog (OOr K)):PlainOk Tryz.prog 243 (kI5 (orR K) orO5) := by
 intro args ds x ds' ob h hob
 unfold kI5 at h
 split at h
 ·rename_i a b c d e g hh i j k
  simp only [Option.some.injEq,Prod.mk.injEq] at h
  obtain ⟨rfl,_,rfl⟩ := h
  refine ⟨[.agg #[.float .f64 a.b,.float .f64 b.b],.agg #[.float .f64 c.b,.float .f64 d.b],.agg #[.float .f64 e.b,.float .f64 g.b],.agg #[.float .f64 hh.b,.float .f64 i.b],.agg #[.float .f64 j.b,.float .f64 k.b]],_,rfl,rfl,fun w => ?_⟩
  have o := orO_ok hob
  have rA := orRunA K ⟨a,b⟩ ⟨c,d⟩ ⟨e,g⟩ ⟨hh,i⟩ ⟨j,k⟩ (neB (orE K orA ⟨a,b⟩ ⟨c,d⟩ ⟨e,g⟩ ⟨hh,i⟩ ⟨j,k⟩).2)
  have rB := orRunB K ⟨a,b⟩ ⟨c,d⟩ ⟨e,g⟩ ⟨hh,i⟩ ⟨j,k⟩ (neB (orE K orB ⟨a,b⟩ ⟨c,d⟩ ⟨e,g⟩ ⟨hh,i⟩ ⟨j,k⟩).2)
  have rC := orRunC K ⟨a,b⟩ ⟨c,d⟩ ⟨e,g⟩ ⟨hh,i⟩ ⟨j,k⟩ (neB (orE K orC ⟨a,b⟩ ⟨c,d⟩ ⟨e,g⟩ ⟨hh,i⟩ ⟨j,k⟩).2)
  unfold orR
  generalize orE K orA ⟨a,b⟩ ⟨c,d⟩ ⟨e,g⟩ ⟨hh,i⟩ ⟨j,k⟩ = A at *
  generalize orE K orB ⟨a,b⟩ ⟨c,d⟩ ⟨e,g⟩ ⟨hh,i⟩ ⟨j,k⟩ = B at *
  generalize orE K orC ⟨a,b⟩ ⟨c,d⟩ ⟨e,g⟩ ⟨hh,i⟩ ⟨j,k⟩ = C at *
  unfold lnR
  cases q1:decide ((orQ K ⟨e,g⟩ ⟨hh,i⟩ ⟨j,k⟩).hi.k ≤ z64.k)
  ·cases q2:decide (z64.k ≤ (orQ K ⟨e,g⟩ ⟨hh,i⟩ ⟨j,k⟩).lo.k)
   ·cases q:neB C.2 <;> rw [q] at rC <;> exact calls_of_val goodG hO 80 rC (ob_c rfl (ob_c q2 (ob_c q1 o))) rfl rfl w
   ·cases q:neB B.2 <;> rw [q] at rB <;> exact calls_of_val goodG hO 80 rB (ob_c rfl (ob_c q2 (ob_c q1 o))) rfl rfl w
  ·cases q:neB A.2 <;> rw [q] at rA <;> exact calls_of_val goodG hO 80 rA (ob_c rfl (ob_c q1 o)) rfl rfl w
 ·cases h
theorem orG:PlainOk Tryz.prog 243 (kI5 (orR KkR) orO5) := orG_of KkR oracleOOr
set_option maxRecDepth 100000 in
theorem oracleMe:OracleOk Tryz.prog (OMe KkR GmR) :=
 .cons addC <| .cons subC <| .cons mulC <| .cons divC <| .cons cmax_I <| .cons sqrC <| .cons csqrt_I <|
 .cons negC <|
 .cons numC <| .cons irtK.of <| .cons rightG.of <| .cons absG.of <| .cons vwG.of <| .cons piG.of <| .cons glG.of <| .cons fdG.of <| .cons fcG.of <| .cons lbG.of <| .cons orG.of <| .nil _
def chO (l:Lf):Obs := [(decide (l.c < 3),true),(decide (0 ≤ l.c),true)]
def olL (l:Lf):Obs := chO l ++ u01O (pF (l.f l.c.toNat))
def olO (l:Lf):Obs := chO l ++ (bndO (pF (l.f l.c.toNat)) z64 one64 ++ (bndO (pF (l.f 12)) z64 one64 ++ (dirO l.v ++ dirO l.u)))
def olP (l:Lf):Obs := glO l.v l.u (pF (l.f 13)) ++ bndO (pF (l.f 14)) minIo four64
def olM (l:Lf):Obs := chO l ++ (glO l.v l.u (pF (l.f 13)) ++ (bndO (pF (l.f (6 + l.c.toNat))) minMt maxMt ++ bndO (pF (l.f (9 + l.c.toNat))) minMt maxMt))
theorem ch_in {l:Lf} (h:ObsOk (chO l)):∃ c:Nat,c < 3 ∧ l.c = (c:Int) := by
 have a := of_decide_eq_true (ob_h h)
 have b := of_decide_eq_true (ob_h (ob_t h))
 obtain ⟨c,e⟩ := Int.eq_ofNat_of_zero_le b
 exact ⟨c,by omega,e⟩
theorem plIt (a:I) (k:Int):plain (.tup [ivS a,.si .i64 k]) = some (.tuple #[.agg #[.float .f64 a.lo.b,.float .f64 a.hi.b],.int .i64 k]) ∧ plain (.tup [ivS a,.i .i64 k]) = some (.tuple #[.agg #[.float .f64 a.lo.b,.float .f64 a.hi.b],.int .i64 k]) := ⟨rfl,rfl⟩
theorem lambK_of (K:Kk) (G:Gm) (hO:OracleOk Tryz.prog (OMe K G)):PlainOk Tryz.prog 206 (kLf (lfG fun l => meL G l.f l.c.toNat) (lfB olL)) := kLf_of fun l ho w => by
 obtain ⟨k,f,c,v,u⟩ := l
 obtain ⟨n,hn,e⟩ := ch_in (ob_l ho)
 simp only at e
 subst e
 exact calls_of_val goodG hO 80 (meLRun K G k f v u n hn) (ob_r ho) (leaf_pl ⟨k,f,n,v,u⟩).2 (plIt _ _).1 w
theorem lambK:PlainOk Tryz.prog 206 (kLf (lfG fun l => meL GmR l.f l.c.toNat) (lfB olL)) := lambK_of KkR GmR oracleMe
theorem orenK_of (K:Kk) (G:Gm) (hO:OracleOk Tryz.prog (OMe K G)) (hD:∀ v u,(dtK K v u).2 = 0 → ObsOk (bndO (gt (dtK K v u).1 0) mone64 one64)):PlainOk Tryz.prog 207 (kLf (lfG fun l => meO K G l.f l.c.toNat l.v l.u) (lfB olO)) := kLf_of fun l ho w => by
 obtain ⟨k,f,c,v,u⟩ := l
 obtain ⟨n,hn,e⟩ := ch_in (ob_l ho)
 simp only at e
 subst e
 have r0 := meORun0 K G k f v u n hn
 have r1 := meORun1 K G k f v u n hn
 show Calls _ _ _ _ fun e w' => e = .returned (.tuple #[.agg #[.float .f64 (meO K G f n v u).1.lo.b,.float .f64 (meO K G f n v u).1.hi.b],.int .i64 (meO K G f n v u).2]) ∧ _
 unfold meO
 cases q:neB (dtK K v u).2
 ·have hd := hD v u (neB_0 q)
  have o:ObsOk (orO5 (pF (f n)) (pF (f 12)) v.z u.z (gt (dtK K v u).1 0) ++ [(neB (dtK K v u).2,false)]) :=
   ob_a (ob_a (ob_l (ob_r ho)) (ob_a (ob_l (ob_r (ob_r ho))) (ob_a (dir_z (ob_l (ob_r (ob_r (ob_r ho))))) (ob_a (dir_z (ob_r (ob_r (ob_r (ob_r ho))))) hd)))) (ob_c q ob_n)
  exact calls_of_val goodG hO 80 r0 o (leaf_pl ⟨k,f,n,v,u⟩).2 (plIt _ _).1 w
 ·exact calls_of_val goodG hO 80 r1 (ob_c q ob_n) (leaf_pl ⟨k,f,n,v,u⟩).2 (plIt _ _).1 w
theorem orenK:PlainOk Tryz.prog 207 (kLf (lfG fun l => meO KkR GmR l.f l.c.toNat l.v l.u) (lfB olO)) := orenK_of KkR GmR oracleMe (fun v u h => dt_in h)
theorem plasK_of (K:Kk) (G:Gm) (hO:OracleOk Tryz.prog (OMe K G)) (hG:∀ v u al,neB (G.gl v u al).2 = false → ObsOk (u01O (G.gl v u al).1.hf)):PlainOk Tryz.prog 208 (kLf (lfG fun l => meP K G l.f l.v l.u) (lfB olP)) := kLf_of fun l ho w => by
 obtain ⟨k,f,c,v,u⟩ := l
 have rA := mePRunA K G k f c v u
 have rB := mePRunB K G k f c v u
 have rC := mePRunC K G k f c v u (neB (meX K G f v u).2)
 show Calls _ _ _ _ fun e w' => e = .returned (.tuple #[.agg #[.float .f64 (meP K G f v u).1.lo.b,.float .f64 (meP K G f v u).1.hi.b],.int .i64 (meP K G f v u).2]) ∧ _
 have og:ObsOk (glO v u (pF (f 13))) := ob_l ho
 unfold meP glM
 cases q1:neB (G.gl v u (pF (f 13))).2
 ·have hh:ObsOk (u01O (G.gl v u (pF (f 13))).1.hf) := hG _ _ _ q1
  have oB:∀ t,neB (G.dl (G.gl v u (pF (f 13))).1.hf (pF (f 14))).2 = t → ObsOk (mpB G f v u t) := fun t ht => ob_c ht (ob_a (ob_a (ob_r ho) hh) (ob_c q1 og))
  cases q2:neB (G.dl (G.gl v u (pF (f 13))).1.hf (pF (f 14))).2
  ·have e:K.mul 0 (G.gl v u (pF (f 13))).1.v (G.dl (G.gl v u (pF (f 13))).1.hf (pF (f 14))).1 = meX K G f v u := rfl
   simp only [cond_false]
   rw [e]
   generalize meX K G f v u = X at *
   cases q3:neB X.2 <;> rw [q3] at rC
   ·exact calls_of_val goodG hO 80 rC (ob_c rfl (oB _ q2)) (leaf_pl ⟨k,f,c,v,u⟩).2 (plIt _ _).2 w
   ·exact calls_of_val goodG hO 80 rC (ob_c rfl (oB _ q2)) (leaf_pl ⟨k,f,c,v,u⟩).2 (plIt _ _).1 w
  ·exact calls_of_val goodG hO 80 rB (oB _ q2) (leaf_pl ⟨k,f,c,v,u⟩).2 (plIt _ _).1 w
 ·exact calls_of_val goodG hO 80 rA (ob_c q1 og) (leaf_pl ⟨k,f,c,v,u⟩).2 (plIt _ _).1 w
theorem plasK:PlainOk Tryz.prog 208 (kLf (lfG fun l => meP KkR GmR l.f l.v l.u) (lfB olP)) := plasK_of KkR GmR oracleMe (fun v u al h => gl_half h)
theorem metaK_of (K:Kk) (G:Gm) (hO:OracleOk Tryz.prog (OMe K G)) (hG:∀ v u al,neB (G.gl v u al).2 = false → ObsOk (u01O (G.gl v u al).1.hf)):PlainOk Tryz.prog 209 (kLf (lfG fun l => meM K G l.f l.c.toNat l.v l.u) (lfB olM)) := kLf_of fun l ho w => by
 obtain ⟨k,f,c,v,u⟩ := l
 obtain ⟨n,hn,e⟩ := ch_in (ob_l ho)
 simp only at e
 subst e
 have rA := meMRunA K G k f n v u
 have rB := meMRunB K G k f v u n hn
 have rC := meMRunC K G k f v u n hn (neB (meY K G f n v u).2)
 show Calls _ _ _ _ fun e w' => e = .returned (.tuple #[.agg #[.float .f64 (meM K G f n v u).1.lo.b,.float .f64 (meM K G f n v u).1.hi.b],.int .i64 (meM K G f n v u).2]) ∧ _
 have og:ObsOk (glO v u (pF (f 13))) := ob_l (ob_r ho)
 unfold meM glM
 cases q1:neB (G.gl v u (pF (f 13))).2
 ·have hh:ObsOk (u01O (G.gl v u (pF (f 13))).1.hf) := hG _ _ _ q1
  have oB:∀ t,neB (G.cd (G.gl v u (pF (f 13))).1.hf (pF (f (6 + n))) (pF (f (9 + n)))).2 = t → ObsOk (mmB G f n v u t) := fun t ht => ob_c ht (ob_a (ob_a (ob_r (ob_r (ob_r ho))) (ob_a (ob_l (ob_r (ob_r ho))) hh)) (ob_c q1 og))
  cases q2:neB (G.cd (G.gl v u (pF (f 13))).1.hf (pF (f (6 + n))) (pF (f (9 + n)))).2
  ·have e:K.mul 0 (G.gl v u (pF (f 13))).1.v (G.cd (G.gl v u (pF (f 13))).1.hf (pF (f (6 + n))) (pF (f (9 + n)))).1 = meY K G f n v u := rfl
   simp only [cond_false]
   rw [e]
   generalize meY K G f n v u = X at *
   cases q3:neB X.2 <;> rw [q3] at rC
   ·exact calls_of_val goodG hO 80 rC (ob_c rfl (oB _ q2)) (leaf_pl ⟨k,f,n,v,u⟩).2 (plIt _ _).2 w
   ·exact calls_of_val goodG hO 80 rC (ob_c rfl (oB _ q2)) (leaf_pl ⟨k,f,n,v,u⟩).2 (plIt _ _).1 w
  ·exact calls_of_val goodG hO 80 rB (oB _ q2) (leaf_pl ⟨k,f,n,v,u⟩).2 (plIt _ _).1 w
 ·exact calls_of_val goodG hO 80 rA (ob_c q1 og) (leaf_pl ⟨k,f,n,v,u⟩).2 (plIt _ _).1 w
theorem metaK:PlainOk Tryz.prog 209 (kLf (lfG fun l => meM KkR GmR l.f l.c.toNat l.v l.u) (lfB olM)) := metaK_of KkR GmR oracleMe (fun v u al h => gl_half h)
section
variable (L:Lfs) (k:Int) (f:Nat → F) (c:Int) (v u:V3) (r:Nat)
theorem va7_1:(runOps Tryz.prog EG (run Tryz.prog EG (OVl L 206) 60).1 (opsOf vR6) ((opsOf vR6).toList.drop 4) (vsL L 206 k f c v u r)).isSome = true := by kernel_rfl
theorem va8_1:exO Tryz.prog EG (OVl L 206) 60 vT (vs7 L 206 k f c v u r) .ret := by unfold exO; kernel_rfl
theorem vb7_1:(vs7 L 206 k f c v u r).ob = L.o (leafS k f c v u) ++ (L.lk (leafS k f c v u) ++ []) := by kernel_rfl
theorem vb8_1:(vs8 L 206 k f c v u r).ob = L.o (leafS k f c v u) ++ (L.lk (leafS k f c v u) ++ []) := by kernel_rfl
theorem vrs_1:resultS Tryz.prog Tryz.f148 (vs8 L 206 k f c v u r) = some (.tup [ivS (L.g (leafS k f c v u)).1,.si .i64 (L.g (leafS k f c v u)).2]) := by kernel_rfl
theorem va7_2:(runOps Tryz.prog EG (run Tryz.prog EG (OVl L 207) 60).1 (opsOf vR6) ((opsOf vR6).toList.drop 4) (vsL L 207 k f c v u r)).isSome = true := by kernel_rfl
theorem va8_2:exO Tryz.prog EG (OVl L 207) 60 vT (vs7 L 207 k f c v u r) .ret := by unfold exO; kernel_rfl
theorem vb7_2:(vs7 L 207 k f c v u r).ob = L.o (leafS k f c v u) ++ (L.lk (leafS k f c v u) ++ []) := by kernel_rfl
theorem vb8_2:(vs8 L 207 k f c v u r).ob = L.o (leafS k f c v u) ++ (L.lk (leafS k f c v u) ++ []) := by kernel_rfl
theorem vrs_2:resultS Tryz.prog Tryz.f148 (vs8 L 207 k f c v u r) = some (.tup [ivS (L.g (leafS k f c v u)).1,.si .i64 (L.g (leafS k f c v u)).2]) := by kernel_rfl
theorem va7_3:(runOps Tryz.prog EG (run Tryz.prog EG (OVl L 208) 60).1 (opsOf vR6) ((opsOf vR6).toList.drop 4) (vsL L 208 k f c v u r)).isSome = true := by kernel_rfl
theorem va8_3:exO Tryz.prog EG (OVl L 208) 60 vT (vs7 L 208 k f c v u r) .ret := by unfold exO; kernel_rfl
theorem vb7_3:(vs7 L 208 k f c v u r).ob = L.o (leafS k f c v u) ++ (L.lk (leafS k f c v u) ++ []) := by kernel_rfl
theorem vb8_3:(vs8 L 208 k f c v u r).ob = L.o (leafS k f c v u) ++ (L.lk (leafS k f c v u) ++ []) := by kernel_rfl
theorem vrs_3:resultS Tryz.prog Tryz.f148 (vs8 L 208 k f c v u r) = some (.tup [ivS (L.g (leafS k f c v u)).1,.si .i64 (L.g (leafS k f c v u)).2]) := by kernel_rfl
theorem va7_4:(runOps Tryz.prog EG (run Tryz.prog EG (OVl L 209) 60).1 (opsOf vR6) ((opsOf vR6).toList.drop 4) (vsL L 209 k f c v u r)).isSome = true := by kernel_rfl
theorem va8_4:exO Tryz.prog EG (OVl L 209) 60 vT (vs7 L 209 k f c v u r) .ret := by unfold exO; kernel_rfl
theorem vb7_4:(vs7 L 209 k f c v u r).ob = L.o (leafS k f c v u) ++ (L.lk (leafS k f c v u) ++ []) := by kernel_rfl
theorem vb8_4:(vs8 L 209 k f c v u r).ob = L.o (leafS k f c v u) ++ (L.lk (leafS k f c v u) ++ []) := by kernel_rfl
theorem vrs_4:resultS Tryz.prog Tryz.f148 (vs8 L 209 k f c v u r) = some (.tup [ivS (L.g (leafS k f c v u)).1,.si .i64 (L.g (leafS k f c v u)).2]) := by kernel_rfl
end
theorem vl_of {L:Lfs} {m:FuncId} {k:Int} {g:Lf → I × Int} {o:Lf → Obs} (hL:L = ⟨lfB lkOl,lfG g,lfB o⟩) (hm:PlainOk Tryz.prog m (kLf (lfG g) (lfB o))):OracleOk Tryz.prog (OVl L m) := by
 subst hL
 exact .cons lookK.of (.cons hm.of (.nil _))
def vaOf:List SV → Option Lf
 | [.agg [.i .u8 k, .fl a0, .fl a1, .fl a2, .fl a3, .fl a4, .fl a5, .fl a6, .fl a7, .fl a8, .fl a9, .fl a10, .fl a11, .fl a12, .fl a13, .fl a14, .fl a15, .i .i64 0, .i .i64 0], ch, .agg [.fl p0, .fl p1, .fl p2, .fl p3, .fl p4, .fl p5], .agg [.fl r0, .fl r1, .fl r2, .fl r3, .fl r4, .fl r5]] => match intS ch with
   | some (.i64,c) => some ⟨k,ndF a0 a1 a2 a3 a4 a5 a6 a7 a8 a9 a10 a11 a12 a13 a14 a15,c,⟨⟨p0,p1⟩,⟨p2,p3⟩,⟨p4,p5⟩⟩,⟨⟨r0,r1⟩,⟨r2,r3⟩,⟨r4,r5⟩⟩⟩
   | _ => none
 | _ => none
theorem vaOf_plain {l:List SV} {x:Lf} (h:vaOf l = some x):etaF x.f = x.f ∧ ∃ vs,plains l = some vs ∧ plains (vArgs x.k x.f x.c x.v x.u) = some vs := by
 unfold vaOf at h
 split at h
 ·split at h
  ·rename_i c hc
   simp only [Option.some.injEq] at h
   subst h
   have hp := intS_plain hc
   refine ⟨rfl,_,?_,rfl⟩
   simp only [plains,plain,hp,Option.bind_some,Option.map_some]
   rfl
  ·cases h
 ·cases h
def vlG (G:Gm) (K:Kk) (l:Lf):I × Int := match l.k with
 | 1 => meL G l.f l.c.toNat
 | 2 => meO K G l.f l.c.toNat l.v l.u
 | 3 => meP K G l.f l.v l.u
 | 4 => meM K G l.f l.c.toNat l.v l.u
 | _ => (I.zero,0)
def vlO (l:Lf):Obs := lkOl l ++ match l.k with
 | 1 => olL l
 | 2 => olO l
 | 3 => olP l
 | 4 => olM l
 | _ => [(false,true)]
def kVal (g:Lf → I × Int) (o:Lf → Obs) (args:List SV) (ds:Dec):Option (SV × Dec × Obs) := match vaOf args with
 | some l => some (.tup [.agg [.fl (g l).1.lo,.fl (g l).1.hi],.si .i64 (g l).2],ds,o l)
 | none => none
theorem valK:PlainOk Tryz.prog 148 (kVal (vlG GmR KkR) vlO) := by
 intro args ds x ds' ob h ho
 unfold kVal at h
 split at h
 ·rename_i l e
  simp only [Option.some.injEq,Prod.mk.injEq] at h
  obtain ⟨rfl,_,rfl⟩ := h
  obtain ⟨hf,vs,h1,h2⟩ := vaOf_plain e
  obtain ⟨k,f,c,v,u⟩ := l
  simp only at hf h2
  refine ⟨vs,_,h1,rfl,fun w => ?_⟩
  have hlk:ObsOk (lfB lkOl (leafS k f c v u)) := by unfold lfB; rw [lfOf_S,hf]; exact ob_l ho
  have go:∀ {m:FuncId} {g:Lf → I × Int} {o:Lf → Obs} (hm:PlainOk Tryz.prog m (kLf (lfG g) (lfB o))) (hwf:(Lit.int .u8 k).wf = true)
    (hat:(tabD 206 207 208 209).atKey (.int .u8 k) (.lit (.bool false)) = .lit (.int .i64 (m:Int)))
    (a7:∀ (L:Lfs) r,(runOps Tryz.prog EG (run Tryz.prog EG (OVl L m) 60).1 (opsOf vR6) ((opsOf vR6).toList.drop 4) (vsL L m k f c v u r)).isSome = true)
    (a8:∀ (L:Lfs) r,exO Tryz.prog EG (OVl L m) 60 vT (vs7 L m k f c v u r) .ret)
    (b7:∀ (L:Lfs) r,(vs7 L m k f c v u r).ob = L.o (leafS k f c v u) ++ (L.lk (leafS k f c v u) ++ []))
    (b8:∀ (L:Lfs) r,(vs8 L m k f c v u r).ob = L.o (leafS k f c v u) ++ (L.lk (leafS k f c v u) ++ []))
    (rs:∀ (L:Lfs) r,resultS Tryz.prog Tryz.f148 (vs8 L m k f c v u r) = some (.tup [ivS (L.g (leafS k f c v u)).1,.si .i64 (L.g (leafS k f c v u)).2]))
    (hob:ObsOk (o ⟨k,f,c,v,u⟩)) (he:vlG GmR KkR ⟨k,f,c,v,u⟩ = g ⟨k,f,c,v,u⟩),
    Calls Tryz.prog 148 vs.toArray w fun e w' => e = .returned (.tuple #[.agg #[.float .f64 (vlG GmR KkR ⟨k,f,c,v,u⟩).1.lo.b,.float .f64 (vlG GmR KkR ⟨k,f,c,v,u⟩).1.hi.b],.int .i64 (vlG GmR KkR ⟨k,f,c,v,u⟩).2]) ∧ Below w.heap.size w w' := by
   intro m g o hm hwf hat a7 a8 b7 b8 rs hob he
   have q := value_of (L := ⟨lfB lkOl,lfG g,lfB o⟩) (g := m) (k := k) f c v u (vl_of (k := k) rfl hm) hwf hat (a7 _) (a8 _) (b7 _) (b8 _) (rs _) hlk (by show ObsOk (lfB o (leafS k f c v u)); unfold lfB; rw [lfOf_S,hf]; exact hob) h2 w
   have eg:lfG g (leafS k f c v u) = g ⟨k,f,c,v,u⟩ := by unfold lfG; rw [lfOf_S,hf]
   rw [he,← eg]
   exact q
  have ho2 := ob_r ho
  split at ho2
  ·rename_i q; simp only at q; subst q
   exact go lambK rfl (tab_at _ _ _ _).1 (fun L r => va7_1 L 1 f c v u r) (fun L r => va8_1 L 1 f c v u r) (fun L r => vb7_1 L 1 f c v u r) (fun L r => vb8_1 L 1 f c v u r) (fun L r => vrs_1 L 1 f c v u r) ho2 rfl
  ·rename_i q; simp only at q; subst q
   exact go orenK rfl (tab_at _ _ _ _).2.1 (fun L r => va7_2 L 2 f c v u r) (fun L r => va8_2 L 2 f c v u r) (fun L r => vb7_2 L 2 f c v u r) (fun L r => vb8_2 L 2 f c v u r) (fun L r => vrs_2 L 2 f c v u r) ho2 rfl
  ·rename_i q; simp only at q; subst q
   exact go plasK rfl (tab_at _ _ _ _).2.2.1 (fun L r => va7_3 L 3 f c v u r) (fun L r => va8_3 L 3 f c v u r) (fun L r => vb7_3 L 3 f c v u r) (fun L r => vb8_3 L 3 f c v u r) (fun L r => vrs_3 L 3 f c v u r) ho2 rfl
  ·rename_i q; simp only at q; subst q
   exact go metaK rfl (tab_at _ _ _ _).2.2.2 (fun L r => va7_4 L 4 f c v u r) (fun L r => va8_4 L 4 f c v u r) (fun L r => vb7_4 L 4 f c v u r) (fun L r => vb8_4 L 4 f c v u r) (fun L r => vrs_4 L 4 f c v u r) ho2 rfl
  ·exact absurd (ob_h ho2) (by simp)
 ·cases h
noncomputable def ODy (lk:SV → Obs) (G:Gm):OracleF := lookO [(137,plainO (kLk lk)),(199,plainO (kI1 G.lb u01O)),(139,plainO (kGl G.gl))]
theorem deRun1 (lk:SV → Obs) (G:Gm) (f:Nat → F) (v u:V3):valR ((run Tryz.prog EG (ODy lk G) 80).1 75 [nodeS 1 f,v.sv,u.sv] [] (some [])) = some (.tup [ivS (G.lb v.z).1,.si .i64 (G.lb v.z).2],some [],u01O v.z ++ (lk (leafI 1 f 0 v u) ++ [])) := by kernel_rfl
theorem deRun2 (lk:SV → Obs) (G:Gm) (f:Nat → F) (v u:V3):valR ((run Tryz.prog EG (ODy lk G) 80).1 75 [nodeS 2 f,v.sv,u.sv] [] (some [])) = some (.tup [ivS (G.lb v.z).1,.si .i64 (G.lb v.z).2],some [],u01O v.z ++ (lk (leafI 2 f 0 v u) ++ [])) := by kernel_rfl
theorem deRun3 (lk:SV → Obs) (G:Gm) (f:Nat → F) (v u:V3):valR ((run Tryz.prog EG (ODy lk G) 80).1 75 [nodeS 3 f,v.sv,u.sv] [] (some [])) = some (.tup [ivS (G.gl v u (pF (f 13))).1.d,.si .i64 (G.gl v u (pF (f 13))).2],some [],glO v u (pF (f 13)) ++ (lk (leafI 3 f 0 v u) ++ [])) := by kernel_rfl
theorem deRun4 (lk:SV → Obs) (G:Gm) (f:Nat → F) (v u:V3):valR ((run Tryz.prog EG (ODy lk G) 80).1 75 [nodeS 4 f,v.sv,u.sv] [] (some [])) = some (.tup [ivS (G.gl v u (pF (f 13))).1.d,.si .i64 (G.gl v u (pF (f 13))).2],some [],glO v u (pF (f 13)) ++ (lk (leafI 4 f 0 v u) ++ [])) := by kernel_rfl
def deOf:List SV → Option Lf
 | [.agg [.i .u8 k,.fl a0,.fl a1,.fl a2,.fl a3,.fl a4,.fl a5,.fl a6,.fl a7,.fl a8,.fl a9,.fl a10,.fl a11,.fl a12,.fl a13,.fl a14,.fl a15,.i .i64 0,.i .i64 0],.agg [.fl p0,.fl p1,.fl p2,.fl p3,.fl p4,.fl p5],.agg [.fl r0,.fl r1,.fl r2,.fl r3,.fl r4,.fl r5]] => some ⟨k,ndF a0 a1 a2 a3 a4 a5 a6 a7 a8 a9 a10 a11 a12 a13 a14 a15,0,⟨⟨p0,p1⟩,⟨p2,p3⟩,⟨p4,p5⟩⟩,⟨⟨r0,r1⟩,⟨r2,r3⟩,⟨r4,r5⟩⟩⟩
 | _ => none
def dArgs (k:Int) (f:Nat → F) (v u:V3):List SV := [nodeS k f,v.sv,u.sv]
theorem deOf_plain {l:List SV} {x:Lf} (h:deOf l = some x):etaF x.f = x.f ∧ x.c = 0 ∧ ∃ vs,plains l = some vs ∧ plains (dArgs x.k x.f x.v x.u) = some vs := by
 unfold deOf at h
 split at h
 ·simp only [Option.some.injEq] at h
  subst h
  exact ⟨rfl,rfl,_,rfl,rfl⟩
 ·cases h
def dnG4 (G:Gm) (l:Lf):I × Int := match l.k with
 | 1 => G.lb l.v.z
 | 2 => G.lb l.v.z
 | 3 => ((G.gl l.v l.u (pF (l.f 13))).1.d,(G.gl l.v l.u (pF (l.f 13))).2)
 | 4 => ((G.gl l.v l.u (pF (l.f 13))).1.d,(G.gl l.v l.u (pF (l.f 13))).2)
 | _ => (I.zero,0)
def dnO4 (l:Lf):Obs := lkOl l ++ match l.k with
 | 1 => u01O l.v.z
 | 2 => u01O l.v.z
 | 3 => glO l.v l.u (pF (l.f 13))
 | 4 => glO l.v l.u (pF (l.f 13))
 | _ => [(false,true)]
def kDe (g:Lf → I × Int) (o:Lf → Obs) (args:List SV) (ds:Dec):Option (SV × Dec × Obs) := match deOf args with
 | some l => some (.tup [.agg [.fl (g l).1.lo,.fl (g l).1.hi],.si .i64 (g l).2],ds,o l)
 | none => none
theorem oracleDy:OracleOk Tryz.prog (ODy (lfB lkOl) GmR) := .cons lookK.of (.cons lbG.of (.cons glG.of (.nil _)))
theorem denK:PlainOk Tryz.prog 75 (kDe (dnG4 GmR) dnO4) := by
 intro args ds x ds' ob h ho
 unfold kDe at h
 split at h
 ·rename_i l e
  simp only [Option.some.injEq,Prod.mk.injEq] at h
  obtain ⟨rfl,_,rfl⟩ := h
  obtain ⟨hf,hc,vs,h1,h2⟩ := deOf_plain e
  obtain ⟨k,f,c,v,u⟩ := l
  simp only at hf hc h2
  subst hc
  refine ⟨vs,_,h1,(plIt _ _).1,fun w => ?_⟩
  have hlk:ObsOk (lfB lkOl (leafI k f 0 v u) ++ []) := by
   have e:lfOf (leafI k f 0 v u) = some ⟨k,etaF f,0,v,u⟩ := rfl
   unfold lfB; rw [e,hf]; exact ob_a (ob_l ho) ob_n
  have ho2 := ob_r ho
  split at ho2
  ·rename_i q; simp only at q; subst q
   exact calls_of_val goodG oracleDy 80 (deRun1 _ _ f v u) (ob_a ho2 hlk) h2 (plIt _ _).1 w
  ·rename_i q; simp only at q; subst q
   exact calls_of_val goodG oracleDy 80 (deRun2 _ _ f v u) (ob_a ho2 hlk) h2 (plIt _ _).1 w
  ·rename_i q; simp only at q; subst q
   exact calls_of_val goodG oracleDy 80 (deRun3 _ _ f v u) (ob_a ho2 hlk) h2 (plIt _ _).1 w
  ·rename_i q; simp only at q; subst q
   exact calls_of_val goodG oracleDy 80 (deRun4 _ _ f v u) (ob_a ho2 hlk) h2 (plIt _ _).1 w
  ·exact absurd (ob_h ho2) (by simp)
 ·cases h
end Go.Proofs.YthclipfgcgoofaaGreat
