/- vec.Unit, plain: the unit vector of a triple above the horizon. VndfTurned, plain: what .. -/
import Derived.Test.YtejcekikbnlllaaGreatU10
set_option linter.all false
set_option maxRecDepth 100000
open Go.Proofs.Tryz(prog)
namespace Bu
open Rx Go
theorem sqrt_mk{a:I}(hr:rt a=true)(h0:0<=a.lo.q):∃r,cSqrt qSqrt 0 a=(r,0)/\rt r=true/\SqD r.lo a.lo/\SqU r.hi a.hi:=by have l:=rt_le hr;obtain⟨x,e1,s1⟩:=(qSqrt_gen h0).1;obtain⟨y,e2,s2⟩:=(qSqrt_gen (a:=a.hi) (by grind)).2;refine⟨⟨x,y⟩,?_,sq_rt (r:=⟨x,y⟩) hr h0 s1 s2,s1,s2⟩;unfold cSqrt;rw[e1,e2,ends_mk rfl rfl,ask_mk hr rfl]
theorem quot_bd{x y d M:Rat}(hd:0<d)(hy:d<=y)(h1:-(M*d)<=x)(h2:x<=M*d)(hM:0<=M):-M<=x/y/\x/y<=M:=by
 have y0:0<y:=by grind
 have e:x/y*y=x:=Rat.div_mul_cancel (by grind);have k:=mN hM (show 0<=y-d by grind);generalize x/y=q at*;constructor
 ·refine Rat.le_of_mul_le_mul_right (c:=y) ?_ y0;grind
 ·refine Rat.le_of_mul_le_mul_right (c:=y) ?_ y0;grind
theorem div_mk{a b:I}(ha:rt a=true)(hb:rt b=true)(h0:0<b.lo.q)(h1:-(9007199254740992*b.lo.q)<=a.lo.q)(h2:a.hi.q<=9007199254740992*b.lo.q) :
  ∃r,cDiv pDiv 0 a b=(r,0)/\AllR r (a.lo.q/b.lo.q) (a.lo.q/b.hi.q) (a.hi.q/b.lo.q) (a.hi.q/b.hi.q):=by
 have la:=rt_le ha;have lb:=rt_le hb;have z:hasB b F.zero=false:=by unfold hasB;rw[hb,Bool.true_and,Bool.and_eq_false_iff,decide_eq_false_iff_not,decide_eq_false_iff_not];left;intro k;have:=q_le.2 k;rw[q_zero]at this;grind
 obtain⟨c,hc⟩:=low_ex;obtain⟨d,hd⟩:=big_ex;have p1:=quot_bd (x:=a.lo.q) (y:=b.lo.q) h0 Rat.le_refl h1 (by grind) (by grind);have p2:=quot_bd (x:=a.lo.q) (y:=b.hi.q) h0 lb h1 (by grind) (by grind);have p3:=quot_bd (x:=a.hi.q) (y:=b.lo.q) h0 Rat.le_refl (by grind) h2 (by grind);have p4:=quot_bd (x:=a.hi.q) (y:=b.hi.q) h0 lb (by grind) h2 (by grind);obtain⟨r,e,hr,_⟩:=all_has (div_four (a:=a) hb z) (c:=c) (d:=d) (by rw[hc];exact p1.1) (by rw[hc];exact p2.1) (by rw[hc];exact p3.1) (by rw[hc];exact p4.1) (by rw[hd];exact p1.2) (by rw[hd];exact p2.2) (by rw[hd];exact p3.2) (by rw[hd];exact p4.2);refine⟨r,?_,hr⟩;unfold cDiv;rw[z,cF,e,ask_mk (by rw[ha,hb];rfl) rfl]
theorem fl_ex(m:Int)(s:Nat)(hm:m.natAbs<=9007199254740992)(hs:s<=900)(w:Rat)(hw:((2^s:Nat):Rat)*w=m):∃c:F,c.q=w:=by
 obtain⟨c,hc⟩:=grid m hm s (by omega) (by omega);refine⟨c,?_⟩;have hp:=pow_q s;generalize ((2^s:Nat):Rat)=p at*;have:(c.q-w)*p=0:=by grind
 rcases Rat.mul_eq_zero.1 this with e|e<;>grind
structure OneP (v:V3):Prop where
 x:In1 v.x
 y:In1 v.y
 z:In1 v.z
 up:1/128<=v.z.lo.q
theorem pt_in{x:F}(h:N1 x):In1 (pt x):=⟨q_le.1 (by rw[mone_q];exact h.lo),q_le.1 (by rw[one_q];exact h.hi),Int.le_refl _⟩
theorem un_okE{x y z:F}(hx:N1 x)(hy:N1 y)(z0:1/64<=z.q)(z1:z.q<=1):(unE KkR x y z).2=0/\OneP (unV KkR x y z):=by
 have hz:N1 z:=⟨by grind,z1⟩;have ix:=pt_in hx;have iy:=pt_in hy;have iz:=pt_in hz;obtain⟨qx,e1,a1,m1⟩:=sqr_in ix;obtain⟨qy,e2,a2,m2⟩:=sqr_in iy;obtain⟨s1,e3,d3,u3⟩:=cAdd_ok a1.sm a2.sm;obtain⟨qz,e4,a4,m4⟩:=sqr_in iz;have l1:=a1.lo;have h1:=a1.hi;have r1:=a1.rt;have l2:=a2.lo;have h2:=a2.hi;have r2:=a2.rt;obtain⟨f2,g2⟩:=fl_ex 2 0 (by decide) (by decide) 2 (by decide+kernel);obtain⟨f4,g4⟩:=fl_ex 4 0 (by decide) (by decide) 4 (by decide+kernel);have s1lo:0<=s1.lo.q:=dn_nn d3 (by grind);have s1hi:s1.hi.q<=2:=by have:=u3.bot f2 (by rw[g2];grind);rwa [g2]at this
 have s1rt:s1.lo.q<=s1.hi.q:=by have:=d3.le;have:=u3.ge;grind
 have s1sm:Sm s1:=⟨by grind,s1rt,by grind⟩;obtain⟨s2,e5,d5,u5⟩:=cAdd_ok s1sm a4.sm;obtain⟨f12,g12⟩:=fl_ex 1 12 (by decide) (by decide) (1/4096) (by decide+kernel);obtain⟨f6,g6⟩:=fl_ex 1 6 (by decide) (by decide) (1/64) (by decide+kernel);obtain⟨f7,g7⟩:=fl_ex 1 7 (by decide) (by decide) (1/128) (by decide+kernel)
 -- the square of z
 have qzlo:1/4096<=qz.lo.q:=by
  obtain⟨r,e,d,_⟩:=cSqr_ok iz.sm;have e':cSqr dMul 0 (pt z)=(qz,0):=e4;rw[e']at e;obtain rfl:qz=r:=congrArg Prod.fst e;have b:=bare_ends (a:=pt z) (dT (Int.le_refl _));have hb:(bareI (pt z)).lo.q*(bareI (pt z)).lo.q=z.q*z.q:=by
   rcases b.1 with k|k
   ·have a:=k.lo;have c:=k.hi;have:(bareI (pt z)).lo.q=z.q:=by have:(pt z).lo.q=z.q:=rfl;have:(pt z).hi.q=z.q:=rfl;grind
    rw[this]
   ·have a:=k.lo;have c:=k.hi;have:-(bareI (pt z)).lo.q=z.q:=by have:(pt z).lo.q=z.q:=rfl;have:(pt z).hi.q=z.q:=rfl;grind
    grind
  rw[hb]at d;rw[<-g12];refine d.top f12 ?_;rw[g12];have:=sq_bd (x:=1/64) (m:=z.q) (by grind) z0;grind
 have l4:=a4.lo;have h4:=a4.hi;have r4:=a4.rt;have s2lo:1/4096<=s2.lo.q:=by have:=d5.top f12 (by rw[g12];grind);rwa [g12]at this
 have s2hi:s2.hi.q<=4:=by have:=u5.bot f4 (by rw[g4];grind);rwa [g4]at this
 have s2rt:s2.lo.q<=s2.hi.q:=by have:=d5.le;have:=u5.ge;grind
 obtain⟨nn,e6,r6,d6,u6⟩:=sqrt_mk (rt_q s2rt) (by grind);have nlo:1/64<=nn.lo.q:=by have:=d6.top f6 (by rw[g6];grind) (by rw[g6];grind);rwa [g6]at this
 have nhi:nn.hi.q<=2:=by have:=u6.bot f2 (by rw[g2];grind) (by rw[g2];grind);rwa [g2]at this
 have nrt:=rt_le r6;have pr:∀w:F,rt (pt w)=true:=fun w=>dT (Int.le_refl _);have bd:∀{w:F},N1 w-> -(9007199254740992*nn.lo.q)<=(pt w).lo.q/\(pt w).hi.q<=9007199254740992*nn.lo.q:=by intro w hw;have a:=hw.lo;have b:=hw.hi;have:(pt w).lo.q=w.q:=rfl;have:(pt w).hi.q=w.q:=rfl;constructor<;>grind
 obtain⟨dx,e7,_⟩:=div_mk (pr x) r6 (by grind) (bd hx).1 (bd hx).2;obtain⟨dy,e8,_⟩:=div_mk (pr y) r6 (by grind) (bd hy).1 (bd hy).2;obtain⟨dz,e9,h9⟩:=div_mk (pr z) r6 (by grind) (bd hz).1 (bd hz).2;have hE:unE KkR x y z=([withI dz,dz,withI dy,dy,withI dx,dx,nn,s2,qz,s1,qy,qx,pt z,pt y,pt x],0):=by
  unfold unE unP;refine(eval_cons (r:=pt x) (e':=0) ?_).trans ?_
  ·exact rfl
  refine(eval_cons (r:=pt y) (e':=0) ?_).trans ?_
  ·exact rfl
  refine(eval_cons (r:=pt z) (e':=0) ?_).trans ?_
  ·exact rfl
  refine(eval_cons (r:=qx) (e':=0) ?_).trans ?_
  ·exact e1
  refine(eval_cons (r:=qy) (e':=0) ?_).trans ?_
  ·exact e2
  refine(eval_cons (r:=s1) (e':=0) ?_).trans ?_
  ·exact e3
  refine(eval_cons (r:=qz) (e':=0) ?_).trans ?_
  ·exact e4
  refine(eval_cons (r:=s2) (e':=0) ?_).trans ?_
  ·exact e5
  refine(eval_cons (r:=nn) (e':=0) ?_).trans ?_
  ·exact e6
  refine(eval_cons (r:=dx) (e':=0) ?_).trans ?_
  ·exact e7
  refine(eval_cons (r:=withI dx) (e':=0) ?_).trans ?_
  ·exact rfl
  refine(eval_cons (r:=dy) (e':=0) ?_).trans ?_
  ·exact e8
  refine(eval_cons (r:=withI dy) (e':=0) ?_).trans ?_
  ·exact rfl
  refine(eval_cons (r:=dz) (e':=0) ?_).trans ?_
  ·exact e9
  refine(eval_cons (r:=withI dz) (e':=0) ?_).trans ?_
  ·exact rfl
  rfl
 have hV:unV KkR x y z=⟨withI dx,withI dy,withI dz⟩:=by unfold unV;rw[hE];rfl
 rw[hV];refine⟨by rw[hE],withI_in _,withI_in _,withI_in _,?_⟩
 -- z by the length
 have pz:(pt z).lo.q=z.q/\(pt z).hi.q=z.q:=⟨rfl,rfl⟩;have low:∀{w:Rat},nn.lo.q<=w->w<=nn.hi.q->1/128<=z.q/w:=by intro w w0 w1;have e:z.q/w*w=z.q:=Rat.div_mul_cancel (by grind);generalize z.q/w=t at*;apply Rat.not_lt.1;intro g;have:=Rat.mul_pos (show 0<1/128-t by grind) (show 0<w by grind);grind
 have dzlo:1/128<=dz.lo.q:=by rw[<-g7];have a:=low Rat.le_refl nrt;have b:=low nrt Rat.le_refl;refine h9.top ?_ ?_ ?_ ?_<;>(rw[g7];simp only[pz.1,pz.2];assumption)
 have zn:z.q<=nn.hi.q:=by refine sq_le' (by grind) (by grind) ?_;have a:=u6.ge;have b:=(m4 z.q ⟨Rat.le_refl,Rat.le_refl⟩).hi;have c:=u5.ge;grind
 have top:z.q/nn.hi.q<=1:=by have e:z.q/nn.hi.q*nn.hi.q=z.q:=Rat.div_mul_cancel (by grind);generalize z.q/nn.hi.q=t at*;apply Rat.not_lt.1;intro g;have:=Rat.mul_pos (show 0<t-1 by grind) (show 0<nn.hi.q by grind);grind
 have mz:Mem dz (z.q/nn.hi.q):=⟨by have:=h9.lo.2.1;simpa only[pz.1]using this,by have:=h9.hi.2.1;simpa only[pz.1]using this⟩;have b:=low nrt Rat.le_refl;show 1/128<=(withI dz).lo.q;rw[withI_eq mz (by grind) top];exact Rat.le_trans dzlo (mxF_q _ _).1
theorem un_ok{x y z:F}(hx:N1 x)(hy:N1 y)(z0:1/64<=z.q)(z1:z.q<=1):OneP (unV KkR x y z):=(un_okE hx hy z0 z1).2
theorem un_B{x y z:F}(hx:N1 x)(hy:N1 y)(z0:1/64<=z.q)(z1:z.q<=1):unB x y z=true:=by
 have kt:decide (tiny64.k<=d64.k)=true:=by decide+kernel
 have kh:decide (one64.k<=huge64.k)=true:=by decide+kernel
 have kd:d64.q*64=1:=q_of' (n:=1) (s:=6) (by decide+kernel) rfl;have k1:=oTz kt;have k2:=oTz kh;have ab:∀{w:F},N1 w->w.abs.k<=one64.k:=by
  intro w hw;have a:=q_le.1 (show w.q<=one64.q by rw[one_q];exact hw.hi);have b:=q_le.1 (show mone64.q<=w.q by rw[mone_q];exact hw.lo);have c:mone64.k= -one64.k:=by decide+kernel
  show((w.k.natAbs:Nat):Int)<=_;omega
 have z2:d64.k<=z.abs.k:=by have a:=q_le.1 (show d64.q<=z.q by grind);show _<=((z.k.natAbs:Nat):Int);omega
 have a:=ab hx;have b:=ab hy;have c:=ab (w:=z) ⟨by grind,z1⟩;unfold unB mostF;have e:(mxF (mxF x.abs y.abs) z.abs).k=max (max x.abs.k y.abs.k) z.abs.k:=by rw[mxF_k,mxF_k]
 rw[e,aTz,Bool.not_eq_true',Bool.not_eq_true',decide_eq_false_iff_not,decide_eq_false_iff_not];constructor<;>omega
theorem Dn.one{r s:F}{v:Rat}(h:Dn r v)(k:Dn s v):r=s:=by have a:=h.top _ k.le;have b:=k.top _ h.le;exact q_inj (by grind)
theorem Up.one{r s:F}{v:Rat}(h:Up r v)(k:Up s v):r=s:=by have a:=h.bot _ k.ge;have b:=k.bot _ h.ge;exact q_inj (by grind)
theorem SqD.one{r s a:F}(h:SqD r a)(k:SqD s a):r=s:=by have a:=h.top _ k.nn k.le;have b:=k.top _ h.nn h.le;exact q_inj (by grind)
theorem SqU.one{r s a:F}(h:SqU r a)(k:SqU s a):r=s:=by have a:=h.bot _ k.nn k.ge;have b:=k.bot _ h.nn h.ge;exact q_inj (by grind)
theorem Dn.turn{r:F}{v:Rat}(h:Dn r v):Up r.neg (-v):=by refine⟨by rw[q_neg];have:=h.le;grind,fun c hc=> ?_⟩;have:=h.top c.neg (by rw[q_neg];grind);rw[q_neg]at this ⊢;grind
theorem Up.turn{r:F}{v:Rat}(h:Up r v):Dn r.neg (-v):=by refine⟨by rw[q_neg];have:=h.ge;grind,fun c hc=> ?_⟩;have:=h.bot c.neg (by rw[q_neg];grind);rw[q_neg]at this ⊢;grind
theorem I.one{a b:I}(h1:a.lo=b.lo)(h2:a.hi=b.hi):a=b:=by cases a;cases b;simp only at h1 h2;subst h1;subst h2;rfl
theorem AllR.one{r u:I}{p q s t p' q' s' t':Rat}(h:AllR r p q s t)(k:AllR u p' q' s' t')
  (hp:(p'=p\/p'=q\/p'=s\/p'=t)/\(q'=p\/q'=q\/q'=s\/q'=t)/\(s'=p\/s'=q\/s'=s\/s'=t)/\(t'=p\/t'=q\/t'=s\/t'=t))
  (hk:(p=p'\/p=q'\/p=s'\/p=t')/\(q=p'\/q=q'\/q=s'\/q=t')/\(s=p'\/s=q'\/s=s'\/s=t')/\(t=p'\/t=q'\/t=s'\/t=t')):r=u:=by
 obtain⟨a1,a2,a3,a4⟩:=h.lo;obtain⟨b1,b2,b3,b4⟩:=h.hi;obtain⟨c1,c2,c3,c4⟩:=k.lo;obtain⟨d1,d2,d3,d4⟩:=k.hi;have e1:∀x,(x=p\/x=q\/x=s\/x=t)->r.lo.q<=x/\x<=r.hi.q:=by rintro x (rfl|rfl|rfl|rfl)<;>exact⟨by assumption,by assumption⟩
 have e2:∀x,(x=p'\/x=q'\/x=s'\/x=t')->u.lo.q<=x/\x<=u.hi.q:=by rintro x (rfl|rfl|rfl|rfl)<;>exact⟨by assumption,by assumption⟩
 obtain⟨p1,p2,p3,p4⟩:=hp;obtain⟨k1,k2,k3,k4⟩:=hk;have f1:=k.top (e1 _ p1).1 (e1 _ p2).1 (e1 _ p3).1 (e1 _ p4).1;have f2:=h.top (e2 _ k1).1 (e2 _ k2).1 (e2 _ k3).1 (e2 _ k4).1;have g1:=k.bot (e1 _ p1).2 (e1 _ p2).2 (e1 _ p3).2 (e1 _ p4).2;have g2:=h.bot (e2 _ k1).2 (e2 _ k2).2 (e2 _ k3).2 (e2 _ k4).2;exact I.one (q_inj (by grind)) (q_inj (by grind))
theorem turn_q(a:I):(turnI a).lo.q= -a.hi.q/\(turnI a).hi.q= -a.lo.q:=⟨q_neg _,q_neg _⟩
theorem AllR.turn{r:I}{p q s t:Rat}(h:AllR r p q s t):AllR (turnI r) (-p) (-q) (-s) (-t):=by
 obtain⟨a1,a2,a3,a4⟩:=h.lo;obtain⟨b1,b2,b3,b4⟩:=h.hi;obtain⟨e1,e2⟩:=turn_q r;refine⟨⟨by grind,by grind,by grind,by grind⟩,⟨by grind,by grind,by grind,by grind⟩,?_,?_⟩
 ·rcases h.hiE with k|k|k|k
  ·exact .inl k.turn
  ·exact .inr (.inl k.turn)
  ·exact .inr (.inr (.inl k.turn))
  ·exact .inr (.inr (.inr k.turn))
 ·rcases h.loE with k|k|k|k
  ·exact .inl k.turn
  ·exact .inr (.inl k.turn)
  ·exact .inr (.inr (.inl k.turn))
  ·exact .inr (.inr (.inr k.turn))
section
variable {v w:List I} {i j i' j':Nat} {r u:I}
theorem s_add(h:Fact (.add i j) v r)(k:Fact (.add i' j') w u)(a:gt w i'=gt v i)(b:gt w j'=gt v j):u=r:=by have k1:=k.1;have k2:=k.2;rw[a,b]at k1 k2;exact I.one (k1.one h.1) (k2.one h.2)
theorem s_add_c(h:Fact (.add i j) v r)(k:Fact (.add i' j') w u)(a:gt w i'=gt v j)(b:gt w j'=gt v i):u=r:=by have k1:=k.1;have k2:=k.2;rw[a,b,Rat.add_comm]at k1 k2;exact I.one (k1.one h.1) (k2.one h.2)
theorem s_add_t(h:Fact (.add i j) v r)(k:Fact (.add i' j') w u)(a:gt w i'=turnI (gt v i))(b:gt w j'=turnI (gt v j)):u=turnI r:=by have k1:=k.1;have k2:=k.2;obtain⟨e1,e2⟩:=turn_q (gt v i);obtain⟨e3,e4⟩:=turn_q (gt v j);rw[a,b,e1,e3,show ∀x y:Rat,-x+ -y= -(x+y)from fun x y=>by grind]at k1;rw[a,b,e2,e4,show ∀x y:Rat,-x+ -y= -(x+y)from fun x y=>by grind]at k2;exact I.one (k1.one h.2.turn) (k2.one h.1.turn)
theorem s_sub_t(h:Fact (.sub i j) v r)(k:Fact (.sub i' j') w u)(a:gt w i'=gt v j)(b:gt w j'=gt v i):u=turnI r:=by have k1:=k.1;have k2:=k.2;rw[a,b,show ∀x y:Rat,x-y= -(y-x)from fun x y=>by grind]at k1 k2;exact I.one (k1.one h.2.turn) (k2.one h.1.turn)
theorem s_sub_c(h:Fact (.sub i j) v r)(k:Fact (.sub i' j') w u)(a:gt w i'=turnI (gt v j))(b:gt w j'=turnI (gt v i)):u=r:=by have k1:=k.1;have k2:=k.2;obtain⟨e1,e2⟩:=turn_q (gt v i);obtain⟨e3,e4⟩:=turn_q (gt v j);rw[a,b,e2,e3,show ∀x y:Rat,-y - -x=x-y from fun x y=>by grind]at k1;rw[a,b,e1,e4,show ∀x y:Rat,-y - -x=x-y from fun x y=>by grind]at k2;exact I.one (k1.one h.1) (k2.one h.2)
theorem s_mul(h:Fact (.mul i j) v r)(k:Fact (.mul i' j') w u)(a:gt w i'=gt v i)(b:gt w j'=gt v j):u=r:=by have k1:AllR u _ _ _ _:=k;rw[a,b]at k1;exact k1.one h (by simp) (by simp)
theorem s_mul_t(h:Fact (.mul i j) v r)(k:Fact (.mul i' j') w u)(a:gt w i'=gt v i)(b:gt w j'=turnI (gt v j)):u=turnI r:=by have k1:AllR u _ _ _ _:=k;obtain⟨e3,e4⟩:=turn_q (gt v j);rw[a,b,e3,e4,Rat.mul_neg,Rat.mul_neg,Rat.mul_neg,Rat.mul_neg]at k1;exact k1.one (AllR.turn h) (by simp) (by simp)
theorem s_div(h:Fact (.div i j) v r)(k:Fact (.div i' j') w u)(a:gt w i'=gt v i)(b:gt w j'=gt v j):u=r:=by have k1:AllR u _ _ _ _:=k.2;rw[a,b]at k1;exact k1.one h.2 (by simp) (by simp)
theorem neg_div'(x y:Rat):-x/y= -(x/y):=by rw[Rat.div_def,Rat.div_def,Rat.neg_mul]
theorem s_div_t(h:Fact (.div i j) v r)(k:Fact (.div i' j') w u)(a:gt w i'=turnI (gt v i))(b:gt w j'=gt v j):u=turnI r:=by have k1:AllR u _ _ _ _:=k.2;obtain⟨e3,e4⟩:=turn_q (gt v i);rw[a,b,e3,e4,neg_div',neg_div',neg_div',neg_div']at k1;exact k1.one (AllR.turn h.2) (by simp) (by simp)
theorem s_sqrt(h:Fact (.sqrt i) v r)(k:Fact (.sqrt i') w u)(a:gt w i'=gt v i):u=r:=by have k1:=k.2.1;have k2:=k.2.2;rw[a]at k1 k2;exact I.one (k1.one h.2.1) (k2.one h.2.2)
theorem s_sqr(h:Fact (.sqr i) v r)(k:Fact (.sqr i') w u)(a:gt w i'=gt v i):u=r:=by have k1:=k.1;have k2:=k.2;rw[a]at k1 k2;exact I.one (k1.one h.1) (k2.one h.2)
theorem s_max(h:Fact (.max i j) v r)(k:Fact (.max i' j') w u)(a:gt w i'=gt v i)(b:gt w j'=gt v j):u=r:=by have k1:u=_:=k;rw[a,b]at k1;exact k1.trans (Eq.symm h)
theorem s_kept{l m:F}(h:Fact (.kept l m i) v r)(k:Fact (.kept l m i') w u)(a:gt w i'=gt v i):u=r:=by have k1:u=_:=k;rw[a]at k1;exact k1.trans (Eq.symm h)
theorem bare_turn{a:I}(hr:a.lo.k<=a.hi.k):bareI (turnI a)=bareI a:=by
 have e1:(turnI a).lo.k= -a.hi.k:=F.neg_k _;have e2:(turnI a).hi.k= -a.lo.k:=F.neg_k _;have z:F.zero.k=0:=rfl;refine I.one (F.ext' ?_) (F.ext' ?_)
 ·unfold bareI;by_cases c1:0<=a.lo.k<;>by_cases c2:a.hi.k<=0<;>by_cases c3:0<=(turnI a).lo.k<;>by_cases c4:(turnI a).hi.k<=0<;>
   simp only[c1,c2,c3,c4,decide_true,decide_false,cT,cF]<;>first|rfl|(simp only[turnI,F.neg_k]at*;omega)
 ·unfold bareI;by_cases c1:0<=a.lo.k<;>by_cases c2:a.hi.k<=0<;>by_cases c3:0<=(turnI a).lo.k<;>by_cases c4:(turnI a).hi.k<=0<;>
   simp only[c1,c2,c3,c4,decide_true,decide_false,cT,cF]<;>first|rfl|(simp only[turnI,F.neg_k,mxF_k]at*;omega)
theorem s_sqr_t(h:Fact (.sqr i) v r)(k:Fact (.sqr i') w u)(a:gt w i'=turnI (gt v i))(hr:(gt v i).lo.k<=(gt v i).hi.k):u=r:=by have k1:=k.1;have k2:=k.2;rw[a,bare_turn hr]at k1 k2;exact I.one (k1.one h.1) (k2.one h.2)
theorem kept_turn(a:I):keptI (turnI a) mone64 one64=turnI (keptI a mone64 one64):=by
 have l:mone64.k= -one64.k:=by decide+kernel
 have p:0<=one64.k:=by decide+kernel
 refine I.one (F.ext' ?_) (F.ext' ?_)<;>(simp only[keptI,turnI,F.neg_k,mnF_k,mxF_k];omega)
theorem s_kept_t(h:Fact (.kept mone64 one64 i) v r)(k:Fact (.kept mone64 one64 i') w u)(a:gt w i'=turnI (gt v i)):u=turnI r:=by have k1:u=_:=k;rw[a,kept_turn]at k1;exact k1.trans (congrArg turnI (Eq.symm h))
end
def sgI(s:Bool)(a:I):I:=bif s then turnI a else a
theorem turn_turn(a:I):turnI (turnI a)=a:=I.one (F.ext' (by show(a.lo.neg.neg).k=_;rw[F.neg_k,F.neg_k];omega)) (F.ext' (by show(a.hi.neg.neg).k=_;rw[F.neg_k,F.neg_k];omega))
theorem sg_sg(s t:Bool)(a:I):sgI s (sgI t a)=sgI (s != t) a:=by cases s<;>cases t<;>simp[sgI,turn_turn]
def ChainR:List Bu.Op->List I->List I->Prop
 | [],v,u=>u=v
 |o::l,v,u=>∃r,(Fact o v r/\ArgsRt o v)/\ChainR l (r::v) u
theorem eval_chainR:∀{l:List Bu.Op}{v:List I}{e:Int},(evalK KkR l v e).2=0->ChainR l v (evalK KkR l v e).1
 | [],_,_,_=>rfl
 | o :: l, v, e, h => by have h2:=eval_chainR (l:=l) h;obtain⟨g1,g3,g2⟩:=step_fact (eval_chain (l:=l) h).1;exact⟨_,⟨g2,g3⟩,h2⟩
theorem chain_drop:∀{l:List Bu.Op}{v u:List I},ChainR l v u->u.drop l.length=v
 | [],v,u,h=>h
 | o :: l, v, u, ⟨r, _, h⟩ => by have:=chain_drop h;rw[show(o::l).length=l.length+1 from rfl,<-List.drop_drop,this];rfl
theorem chain_at:∀{l:List Bu.Op}{v u:List I},ChainR l v u->∀{p:Nat}{o:Bu.Op},l.reverse[p]? =some o->Fact o (u.drop (p+1)) (gt u p)/\ArgsRt o (u.drop (p+1))
 | [],_,_,_,p,o,h=>by simp at h
 | o :: l, v, u, ⟨r, f, h⟩, p, o', hp => by
   rw[List.reverse_cons]at hp;by_cases k:p<l.reverse.length
   ·rw[List.getElem?_append_left k]at hp;exact chain_at h hp
   ·rw[List.getElem?_append_right (by omega)]at hp;have hl:l.reverse.length=l.length:=List.length_reverse;have d:=chain_drop h;have e:p-l.reverse.length=0:=by
     cases c:p-l.reverse.length with
     |zero=>rfl
     |succ n=>rw[c]at hp;simp at hp
    rw[e]at hp;have pe:p=l.length:=by omega
    subst pe;have eo:o=o':=by simpa using hp
    subst eo;have e1:gt u l.length=r:=by
     have:(u.drop l.length)[0]? =some r:=by rw[d];rfl
     rw[List.getElem?_drop]at this;unfold gt;rw[List.getD_eq_getElem?_getD,show l.length=l.length+0 from rfl,this];rfl
    have e2:u.drop (l.length+1)=v:=by rw[<-List.drop_drop,d];rfl
    rw[e1,e2];exact f
theorem gt_drop(u:List I)(p i:Nat):gt (u.drop p) i=gt u (p+i):=by unfold gt;rw[List.getD_eq_getElem?_getD,List.getD_eq_getElem?_getD,List.getElem?_drop]
abbrev Sg:=Nat×Bool
def twS(z:Bool)(x:Sg):Sg:=(x.1,z != x.2)
def vS(u:List I)(x:Sg):I:=sgI x.2 (gt u x.1)
theorem vs_tw(u:List I)(z:Bool)(x:Sg):vS u (twS z x)=sgI z (vS u x):=by unfold vS twS;rw[sg_sg]
def eqF(a b:F):Bool:=decide (a.k=b.k)
theorem eqF_ok{a b:F}(h:eqF a b=true):a=b:=F.ext' (oTz h)
def numAt(x:F):List Bu.Op->Nat->Option Nat
 | [],_=>none
 | o :: t, p => match o with
   | .num y=>bif eqF x y then some p else numAt x t (p+1)
   |_=>numAt x t (p+1)
theorem numAt_ok{x:F}{L:List Bu.Op}:∀{t:List Bu.Op}{p q:Nat},(∀i,t[i]? =L[p+i]?)->numAt x t p=some q->L[q]? =some (.num x)
 | [],_,_,_,h=>by cases h
 | o :: t, p, q, ht, h => by
   have h0:L[p]? =some o:=by have:=ht 0;simpa using this.symm
   have ih:numAt x t (p+1)=some q->L[q]? =some (.num x):=numAt_ok (p:=p+1) (fun i=>by have:=ht (i+1);rw[show p+1+i=p+(i+1)from by omega,<-this];rfl);unfold numAt at h;split at h
   ·rename_i y;cases c:eqF x y
    ·rw[c]at h;exact ih h
    ·rw[c]at h;have e:p=q:=by simpa using h
     subst e;rw[eqF_ok c];exact h0
   ·exact ih h
def canon(L:List Bu.Op)(p:Nat):Sg:=match L[p]? with
 |some (.neg i)=>(p+1+i,true)
 |some (.num x)=>((numAt x L 0).getD p,false)
 |_=>(p,false)
theorem canon_ok{l:List Bu.Op}{v u:List I}(h:ChainR l v u)(p:Nat):vS u (canon l.reverse p)=gt u p:=by
 unfold canon;split
 ·rename_i i e;have f:gt u p=turnI (gt (u.drop (p+1)) i):=(chain_at h e).1;rw[f,gt_drop];rfl
 ·rename_i x e;have f:gt u p=⟨x,x⟩:=(chain_at h e).1;show gt u _=_;cases c:numAt x l.reverse 0 with
  |none=>rfl
  | some q =>
    have f':gt u q=⟨x,x⟩:=(chain_at h (numAt_ok (fun i=>by rw[Nat.zero_add]) c)).1;rw[f];exact f'
 ·rfl
def eqI(a b:I):Bool:=eqF a.lo b.lo&&eqF a.hi b.hi
theorem eqI_ok{a b:I}(h:eqI a b=true):a=b:=by obtain⟨h1,h2⟩:=both h;exact I.one (eqF_ok h1) (eqF_ok h2)
def eqS(x y:Sg):Bool:=x.1==y.1&&x.2==y.2
theorem eqS_ok{x y:Sg}(h:eqS x y=true):x=y:=by obtain⟨h1,h2⟩:=both h;exact Prod.ext (by simpa using h1) (by simpa using h2)
def mate(L:List Bu.Op)(m:List Sg)(o' o:Bu.Op)(p:Nat)(z:Bool):Bool:=
 let X:=fun i=>m.getD i (0,false)
 let A:=fun i=>canon L (p+1+i)
 let has:=fun i=>decide (i<m.length)
 match o',o with
 | .add i j,.add a b=>has i&&has j&&(eqS (X i) (twS z (A a))&&eqS (X j) (twS z (A b))||eqS (X i) (twS z (A b))&&eqS (X j) (twS z (A a)))
 | .sub i j,.sub a b=>has i&&has j&&(eqS (X i) (twS z (A a))&&eqS (X j) (twS z (A b))||eqS (X i) (twS (!z) (A b))&&eqS (X j) (twS (!z) (A a)))
 | .mul i j,.mul a b=>has i&&has j&&(eqS (X i) (A a)&&eqS (X j) (twS z (A b))||eqS (X i) (twS true (A a))&&eqS (X j) (twS (!z) (A b))||eqS (X i) (A b)&&eqS (X j) (twS z (A a))||eqS (X i) (twS true (A b))&&eqS (X j) (twS (!z) (A a)))
 | .div i j,.div a b=>has i&&has j&&eqS (X i) (twS z (A a))&&eqS (X j) (A b)
 | .max i j,.max a b=>has i&&has j&& !z&&(eqS (X i) (A a)&&eqS (X j) (A b))
 | .sqr i,.sqr a=>has i&& !z&&(eqS (X i) (A a)||eqS (X i) (twS true (A a)))
 | .sqrt i,.sqrt a=>has i&& !z&&eqS (X i) (A a)
 | .num x,.num y=> !z&&eqF x y
 | .lit x,.lit y=> !z&&eqI x y
 | .kept l h i,.kept l' h' a=>has i&&eqF l l'&&eqF h h'&&(!z&&eqS (X i) (A a)||z&&eqF l mone64&&eqF h one64&&eqS (X i) (twS true (A a)))
 | .wi i,.wi a=>has i&& !z&&eqS (X i) (A a)
 | .hid i,.hid a=>has i&& !z&&eqS (X i) (A a)
 |_,_=>false
def Rel(m:List Sg)(w u:List I):Prop:=∀i,i<m.length->gt w i=vS u (m.getD i (0,false))
theorem s_sub{v w:List I}{i j i' j':Nat}{r u:I}(h:Fact (.sub i j) v r)(k:Fact (.sub i' j') w u)(a:gt w i'=gt v i)(b:gt w j'=gt v j):u=r:=by have k1:=k.1;have k2:=k.2;rw[a,b]at k1 k2;exact I.one (k1.one h.1) (k2.one h.2)
theorem s_sub_n{v w:List I}{i j i' j':Nat}{r u:I}(h:Fact (.sub i j) v r)(k:Fact (.sub i' j') w u)(a:gt w i'=turnI (gt v i))(b:gt w j'=turnI (gt v j)):u=turnI r:=by have k1:=k.1;have k2:=k.2;obtain⟨e1,e2⟩:=turn_q (gt v i);obtain⟨e3,e4⟩:=turn_q (gt v j);rw[a,b,e1,e4,show ∀x y:Rat,-x - -y= -(x-y)from fun x y=>by grind]at k1;rw[a,b,e2,e3,show ∀x y:Rat,-x - -y= -(x-y)from fun x y=>by grind]at k2;exact I.one (k1.one h.2.turn) (k2.one h.1.turn)
theorem s_mul_sg{v w:List I}{i j i' j':Nat}{r u:I}{s t:Bool}(h:Fact (.mul i j) v r)(k:Fact (.mul i' j') w u)(a:gt w i'=sgI s (gt v i))(b:gt w j'=sgI t (gt v j)):u=sgI (s != t) r:=by
 have k1:AllR u _ _ _ _:=k;obtain⟨e1,e2⟩:=turn_q (gt v i);obtain⟨e3,e4⟩:=turn_q (gt v j);cases s<;>cases t<;>simp only[sgI,cF,cT]at a b
 ·exact s_mul h k a b
 ·exact s_mul_t h k a b
 ·rw[a,b,e1,e2,Rat.neg_mul,Rat.neg_mul,Rat.neg_mul,Rat.neg_mul]at k1;exact k1.one (AllR.turn h) (by simp) (by simp)
 ·rw[a,b,e1,e2,e3,e4,Rat.neg_mul,Rat.neg_mul,Rat.neg_mul,Rat.neg_mul,Rat.mul_neg,Rat.mul_neg,Rat.mul_neg,Rat.mul_neg,Rat.neg_neg,Rat.neg_neg,Rat.neg_neg,Rat.neg_neg]at k1;exact k1.one h (by simp) (by simp)
theorem fact_swap{i j:Nat}{v:List I}{r:I}(h:Fact (.mul i j) v r):Fact (.mul j i) v r:=by have k:AllR r _ _ _ _:=h;show AllR r _ _ _ _;rw[Rat.mul_comm,Rat.mul_comm (gt v i).lo.q (gt v j).hi.q,Rat.mul_comm (gt v i).hi.q (gt v j).lo.q,Rat.mul_comm (gt v i).hi.q]at k;exact⟨⟨k.lo.1,k.lo.2.2.1,k.lo.2.1,k.lo.2.2.2⟩,⟨k.hi.1,k.hi.2.2.1,k.hi.2.1,k.hi.2.2.2⟩,by rcases k.loE with e|e|e|e<;>simp[e],by rcases k.hiE with e|e|e|e<;>simp[e]⟩
theorem add_swap{i j:Nat}{v:List I}{r:I}(h:Fact (.add i j) v r):Fact (.add j i) v r:=
 ⟨by have:=h.1;rwa [Rat.add_comm]at this,by have:=h.2;rwa [Rat.add_comm]at this⟩
theorem mate_ok{l:List Bu.Op}{v u w:List I}{m:List Sg}(h:ChainR l v u)(hm:Rel m w u){o' o:Bu.Op}{p:Nat}{z:Bool}{r:I}(hp:l.reverse[p]? =some o)(hf:Fact o' w r)(hc:mate l.reverse m o' o p z=true):r=sgI z (gt u p):=by
 obtain⟨f,ar⟩:=chain_at h hp;have A:∀i,vS u (canon l.reverse (p+1+i))=gt (u.drop (p+1)) i:=fun i=>by rw[canon_ok h,gt_drop]
 generalize hL:l.reverse=L at*;generalize hV:u.drop (p+1)=V at*;have T:∀{x:Sg}{z:Bool}{i:Nat},eqS x (twS z (canon L (p+1+i)))=true->vS u x=sgI z (gt V i):=fun{x z i}e=>by rw[eqS_ok e,vs_tw,A]
 have Z:∀{x:Sg}{i:Nat},eqS x (canon L (p+1+i))=true->vS u x=gt V i:=fun{x i}e=>by rw[eqS_ok e,A]
 unfold mate at hc;split at hc<;>simp only[aTz,Bool.or_eq_true,decide_eq_true_eq,Bool.not_eq_true',and_assoc]at hc
 ·obtain⟨hi,hj,⟨e1,e2⟩|⟨e1,e2⟩⟩:=hc
  ·have a:=(hm _ hi).trans (T e1);have b:=(hm _ hj).trans (T e2);cases z
   ·exact s_add f hf a b
   ·exact s_add_t f hf a b
  ·have a:=(hm _ hi).trans (T e1);have b:=(hm _ hj).trans (T e2);cases z
   ·exact s_add_c f hf a b
   ·exact s_add_t (add_swap f) hf a b
 ·obtain⟨hi,hj,⟨e1,e2⟩|⟨e1,e2⟩⟩:=hc
  ·have a:=(hm _ hi).trans (T e1);have b:=(hm _ hj).trans (T e2);cases z
   ·exact s_sub f hf a b
   ·exact s_sub_n f hf a b
  ·have a:=(hm _ hi).trans (T e1);have b:=(hm _ hj).trans (T e2);cases z
   ·exact s_sub_c f hf a b
   ·exact s_sub_t f hf a b
 ·obtain⟨hi,hj,((⟨e1,e2⟩|⟨e1,e2⟩)|⟨e1,e2⟩)|⟨e1,e2⟩⟩:=hc
  ·have a:=(hm _ hi).trans (Z e1);have b:=(hm _ hj).trans (T e2);have:=s_mul_sg (s:=false) (t:=z) f hf a b;cases z<;>exact this
  ·have a:=(hm _ hi).trans (T e1);have b:=(hm _ hj).trans (T e2);have:=s_mul_sg (s:=true) (t:= !z) f hf a b;cases z<;>exact this
  ·have a:=(hm _ hi).trans (Z e1);have b:=(hm _ hj).trans (T e2);have:=s_mul_sg (s:=false) (t:=z) (fact_swap f) hf a b;cases z<;>exact this
  ·have a:=(hm _ hi).trans (T e1);have b:=(hm _ hj).trans (T e2);have:=s_mul_sg (s:=true) (t:= !z) (fact_swap f) hf a b;cases z<;>exact this
 ·obtain⟨hi,hj,e1,e2⟩:=hc;have a:=(hm _ hi).trans (T e1);have b:=(hm _ hj).trans (Z e2);cases z
  ·exact s_div f hf a b
  ·exact s_div_t f hf a b
 ·obtain⟨hi,hj,rfl,e1,e2⟩:=hc;exact s_max f hf ((hm _ hi).trans (Z e1)) ((hm _ hj).trans (Z e2))
 ·obtain⟨hi,rfl,e1|e1⟩:=hc
  ·exact s_sqr f hf ((hm _ hi).trans (Z e1))
  ·exact s_sqr_t f hf ((hm _ hi).trans (T e1)) (oTz ar)
 ·obtain⟨hi,rfl,e1⟩:=hc;exact s_sqrt f hf ((hm _ hi).trans (Z e1))
 ·obtain⟨rfl,e1⟩:=hc;have a:r=_:=hf;have b:gt u p=_:=f;rw[a,eqF_ok e1];exact b.symm
 ·obtain⟨rfl,e1⟩:=hc;have a:r=_:=hf;have b:gt u p=_:=f;rw[a,eqI_ok e1];exact b.symm
 ·obtain⟨hi,e1,e2,⟨rfl,e3⟩|⟨rfl,e3,e4,e5⟩⟩:=hc
  ·rw[eqF_ok e1,eqF_ok e2]at hf;exact s_kept f hf ((hm _ hi).trans (Z e3))
  ·rw[eqF_ok e3,eqF_ok e4]at hf;rw[<-eqF_ok e1,<-eqF_ok e2,eqF_ok e3,eqF_ok e4]at f;exact s_kept_t f hf ((hm _ hi).trans (T e5))
 ·obtain⟨hi,rfl,e1⟩:=hc;have a:r=_:=hf;have b:gt u p=_:=f;rw[a,(hm _ hi).trans (Z e1)];exact b.symm
 ·obtain⟨hi,rfl,e1⟩:=hc;have a:r=_:=hf;have b:gt u p=_:=f;rw[a,(hm _ hi).trans (Z e1)];exact b.symm
 ·cases hc
def seek(L:List Bu.Op)(m:List Sg)(o':Bu.Op):List Bu.Op->Nat->Option Sg
 | [],_=>none
 |o::t,p=>bif mate L m o' o p false then some (p,false)else bif mate L m o' o p true then some (p,true)else seek L m o' t (p+1)
theorem seek_ok{L:List Bu.Op}{m:List Sg}{o':Bu.Op}:∀{t:List Bu.Op}{p:Nat}{x:Sg},(∀i,t[i]? =L[p+i]?)->seek L m o' t p=some x->∃o,L[x.1]? =some o/\mate L m o' o x.1 x.2=true
 | [],_,_,_,h=>by cases h
 | o :: t, p, x, ht, h => by
   unfold seek at h;have h0:L[p]? =some o:=by have:=ht 0;simpa using this.symm
   cases c1:mate L m o' o p false
   ·rw[c1,cF]at h;cases c2:mate L m o' o p true
    ·rw[c2,cF]at h;exact seek_ok (p:=p+1) (fun i=>by have:=ht (i+1);rw[show p+1+i=p+(i+1)from by omega,<-this];rfl) h
    ·rw[c2,cT]at h;cases h;exact⟨o,h0,c2⟩
   ·rw[c1,cT]at h;cases h;exact⟨o,h0,c1⟩
theorem rel_cons{m:List Sg}{w u:List I}{r:I}{x:Sg}(h:Rel m w u)(e:r=vS u x):Rel (x::m) (r::w) u:=by
 intro i hi;cases i with
 |zero=>exact e
 |succ i=>exact h i (by simpa using hi)
def seek2(L:List Bu.Op)(m:List Sg)(o':Bu.Op)(p:Nat):Option Sg:=match L[p]? with
 |some o=>bif mate L m o' o p false then some (p,false)else seek L m o' L 0
 |none=>seek L m o' L 0
theorem seek2_ok{L:List Bu.Op}{m:List Sg}{o':Bu.Op}{p:Nat}{x:Sg}(h:seek2 L m o' p=some x):∃o,L[x.1]? =some o/\mate L m o' o x.1 x.2=true:=by
 have far:seek L m o' L 0=some x->∃o,L[x.1]? =some o/\mate L m o' o x.1 x.2=true:=fun h=>seek_ok (fun i=>by rw[Nat.zero_add]) h;unfold seek2 at h;split at h
 ·rename_i o e;cases c:mate L m o' o p false
  ·rw[c]at h;exact far h
  ·rw[c]at h;cases h;exact⟨o,e,c⟩
 ·exact far h
def twin2(L:List Bu.Op):List Bu.Op->List Sg->Option (List Sg)
 | [],m=>some m
 | o :: t, m => match o with
   | .neg i=>bif decide (i<m.length)then twin2 L t (twS true (m.getD i (0,false))::m)else none
   | o => match seek2 L m o t.length with
     |some x=>twin2 L t ((bif x.2 then twS true (canon L x.1)else canon L x.1)::m)
     |none=>none
theorem twin2_ok{l:List Bu.Op}{v u:List I}(h:ChainR l v u):∀{t:List Bu.Op}{w u':List I}{m k:List Sg},ChainR t w u'->Rel m w u->twin2 l.reverse t m=some k->Rel k u' u
 | [], w, u', m, k, hc, hm, hk => by cases hk;rw[show u'=w from hc];exact hm
 | o :: t, w, u', m, k, ⟨r, ⟨f, _⟩, hc⟩, hm, hk => by
   have gen:(∀i,o≠ .neg i)->Rel k u' u:=by
    intro hn;have hk':(match seek2 l.reverse m o t.length with
     |some x=>twin2 l.reverse t ((bif x.2 then twS true (canon l.reverse x.1)else canon l.reverse x.1)::m)
     |none=>none)=some k:=by
     rw[<-hk];cases o<;>first|rfl|exact absurd rfl (hn _)
    split at hk'
    ·rename_i x hx;obtain⟨o2,h1,h2⟩:=seek2_ok hx;have e:=mate_ok h hm h1 f h2;refine twin2_ok h hc (rel_cons hm ?_) hk';rw[e];cases x.2
     ·exact(canon_ok h _).symm
     ·rw[cT,vs_tw,canon_ok h]
    ·cases hk'
   cases o with
   | neg i =>
     unfold twin2 at hk;simp only at hk;cases c:decide (i<m.length)
     ·rw[c]at hk;cases hk
     ·rw[c,cT]at hk;refine twin2_ok h hc (rel_cons hm ?_) hk;rw[vs_tw,<-hm i (oTz c)];exact f
   |_=>exact gen (fun i=>by simp)
def tw1(l t:List Bu.Op)(ps:List Nat)(i j:Nat):Bool:=match twin2 l.reverse t (ps.map fun p=>(l.length+p,false))with
 |some k=>decide (i<k.length)&&eqS (k.getD i (0,false)) (j,false)
 |none=>false
theorem tw_get{l t:List Bu.Op}{v w:List I}{ps:List Nat}{i j:Nat}(h:(evalK KkR l v 0).2=0)(h':(evalK KkR t w 0).2=0)(hw:∀i,i<ps.length->gt w i=gt v (ps.getD i 0))(hk:tw1 l t ps i j=true):gt (evalK KkR t w 0).1 i=gt (evalK KkR l v 0).1 j:=by
 have c:=eval_chainR h;have c':=eval_chainR h';have d:=chain_drop c;have hr:Rel (ps.map fun p=>(l.length+p,false)) w (evalK KkR l v 0).1:=by
  intro i hi;rw[List.length_map]at hi;have e:(ps.map fun p=>(l.length+p,false)).getD i (0,false)=(l.length+ps.getD i 0,false):=by rw[List.getD_eq_getElem?_getD,List.getD_eq_getElem?_getD,List.getElem?_map,List.getElem?_eq_getElem hi];rfl
  rw[hw i hi,e];show gt v (ps.getD i 0)=gt (evalK KkR l v 0).1 (l.length+ps.getD i 0);rw[<-gt_drop,d]
 unfold tw1 at hk;split at hk
 ·rename_i k e;rw[aTz]at hk;rw[twin2_ok c c' hr e i (oTz hk.1),eqS_ok hk.2];rfl
 ·cases hk
theorem one_box{v:V3}(h:OneP v):InB v.x b11/\InB v.y b11/\InB v.z bzz:=by
 have e:bzz.lo.q=1/128:=by have:bzz.lo.q*128=1:=q_of' (n:=1) (s:=7) (by decide+kernel) rfl;grind
 exact⟨⟨h.x.lo,h.x.hi,h.x.rt⟩,⟨h.y.lo,h.y.hi,h.y.rt⟩,⟨q_le.1 (by rw[e];exact h.up),h.z.hi,h.z.rt⟩⟩
def miE(v u:V3):List I×Int:=evalK KkR miH [u.z,u.y,u.x,v.z,v.y,v.x] 0
def hfI(v u:V3):I:=gt (miE v u).1 3
def lnI(v u:V3):I:=gt (miE v u).1 0
def lamP:List Op:=[.sqr 1,.sqr 1,.num (one64),.sub 0 1,.div 0 2,.num (q2),.num (one64),.mul 6 2,.add 1 0,.sqrt 0,.num (one64),.sub 1 0,.mul 6 0,.hid 0]
def Lam(c al:I):I:=gt (evalK KkR lamP [c,al] 0).1 0
theorem lam_box:(evalK KkR lamP [bzz,bal] 0).2=0/\lamP.all monoB=true:=by decide+kernel
theorem lam_tw:tw1 gg2 lamP [1,2] 0 17=true/\tw1 gg2 lamP [0,2] 0 3=true/\tw1 gg1 lamP [0,1] 0 3=true:=by decide+kernel
theorem lam_ok{c al:I}(hc:InB c bzz)(ha:InB al bal):(evalK KkR lamP [c,al] 0).2=0/\rt (Lam c al)=true/\0<=(Lam c al).lo.q:=by
 have b:=box (v:=[c,al]) (w:=[bzz,bal]) lam_box.2 ⟨hc,ha,trivial⟩ lam_box.1;refine⟨b.1,(b.2 0).rt,?_⟩;obtain⟨_,k⟩:=eval_chain b.1;have e:∃y,Lam c al=hidI y:=by unfold Lam;generalize (evalK KkR lamP [c,al] 0).1=u at*;obtain⟨a2,ha2,sq,hsq,o2,ho2,s1,hs1,t,ht,h,hh,o3,ho3,atn,hatn,s2,hs2,r,hr,o4,ho4,s3,hs3,x,hx,l,hl,hend⟩:=k;subst hend;exact⟨_,hl⟩
 obtain⟨y,e⟩:=e;rw[e];refine nn_q ?_;have z:(toF 0).k=F.zero.k:=by decide+kernel
 rw[(hidI_k y).1];omega
def Ga(v u:V3)(al:I):I:=gt (evalK KkR gg2 [u.z,v.z,al] 0).1 0
def Gb(u:V3)(al:I):I:=gt (evalK KkR gg1 [u.z,al] 0).1 0
def Da(v u:V3)(al:I):I:=gt (evalK KkR ggD [lnI v u,al] 0).1 0
def giE(v u:V3)(al:I):List I×Int:=evalK KkR miV [Gb u al,Ga v u al,Da v u al,u.z,v.z] 0
def giV(v u:V3)(al:I):I:=gt (giE v u al).1 3
def giD(v u:V3)(al:I):I:=gt (giE v u al).1 0
theorem gb_pt{u:V3}{al:I}{y:Rat}(h:(evalK KkR gg1 [u.z,al] 0).2=0)(hy:Mem (Lam u.z al) y)(hu:InB u.z bzz)(ha:InB al bal):Mem (Gb u al) (1/(1+y)):=by have t2:=tw_get (l:=gg1) (t:=lamP) (v:=[u.z,al]) (w:=[u.z,al]) h (lam_ok hu ha).1 (fun i hi=>by match i,hi with|0,_=>rfl|1,_=>rfl) lam_tw.2.2;obtain⟨_,k⟩:=eval_chain h;have t2':Lam u.z al=_:=t2;rw[t2']at hy;unfold Gb;generalize (evalK KkR gg1 [u.z,al] 0).1=w at*;clear t2 t2';obtain⟨a2,ha2,o1,ho1,sq,hsq,o2,ho2,s1,hs1,t,ht,hh,hhh,o3,ho3,a,hat,s2,hs2,r,hr,o4,ho4,s3,hs3,x,hx,l,hl,s,hs,o5,ho5,g,hg,hend⟩:=k;subst hend;exact p_div hg (p_num ho5 one_q) (p_add hs (p_num ho1 one_q) hy)
theorem gi_pt{v u:V3}{al:I}{d g o z w:Rat}(h:(giE v u al).2=0)(hd:Mem (Da v u al) d)(hg:Mem (Ga v u al) g)(ho:Mem (Gb u al) o)(hz:Mem v.z z)(hw:Mem u.z w) :
  Mem (giV v u al) (d*g/(4*z*w))/\Mem (giD v u al) (o*d/(4*w)):=by
 obtain⟨_,k⟩:=eval_chain h;have f:four64.q=4:=q_int (n:=4) (by decide+kernel);unfold giV giD giE;generalize (evalK KkR miV [Gb u al,Ga v u al,Da v u al,u.z,v.z] 0).1=r at*;obtain⟨four,hfour,m1,hm1,m2,hm2,m3,hm3,vv,hv,d1,hd1,d2,hd2,den,hden,hend⟩:=k;subst hend;exact⟨p_div hv (p_mul hm1 hd hg) (p_mul hm3 (p_mul hm2 (p_num hfour f) hz) hw),p_div hden (p_mul hd1 ho hd) (p_mul hd2 (p_num hfour f) hw)⟩
def lnR(E:List I×Int)(i:Nat):I×Int:=bif neB E.2 then(I.zero,E.2)else(gt E.1 i,0)
def miK(K:Kk)(v u:V3):List I×Int:=evalK K miH [u.z,u.y,u.x,v.z,v.y,v.x] 0
def g2K(K:Kk)(c d al:I):List I×Int:=evalK K gg2 [d,c,al] 0
def fdK(K:Kk)(c n:I):List I×Int:=evalK K frD [c,n] 0
def fcK(K:Kk)(c a b:I):List I×Int:=evalK K frC [c,a,b] 0
def lbK(K:Kk)(r:I):List I×Int:=evalK K lbV [r] 0
def u01O(c:I):Obs:=[(decide (c.hi.k<=one64.k),true),(decide (z64.k<=c.lo.k),true),(rt c,true)]
def bndO(c:I)(l h:F):Obs:=[(decide (c.hi.k<=h.k),true),(decide (l.k<=c.lo.k),true),(rt c,true)]
def kHf(f:V3->V3->List I×Int):List SV->Dec->Option (SV×Dec×Obs)
 | [.agg [.fl a, .fl b, .fl c, .fl d, .fl e, .fl f'], .agg [.fl g, .fl h, .fl i, .fl j, .fl k, .fl l]], ds =>
   some (.tup [.agg [.fl (lnR (f ⟨⟨a,b⟩,⟨c,d⟩,⟨e,f'⟩⟩ ⟨⟨g,h⟩,⟨i,j⟩,⟨k,l⟩⟩) 0).1.lo,.fl (lnR (f ⟨⟨a,b⟩,⟨c,d⟩,⟨e,f'⟩⟩ ⟨⟨g,h⟩,⟨i,j⟩,⟨k,l⟩⟩) 0).1.hi],.agg [.fl (lnR (f ⟨⟨a,b⟩,⟨c,d⟩,⟨e,f'⟩⟩ ⟨⟨g,h⟩,⟨i,j⟩,⟨k,l⟩⟩) 3).1.lo,.fl (lnR (f ⟨⟨a,b⟩,⟨c,d⟩,⟨e,f'⟩⟩ ⟨⟨g,h⟩,⟨i,j⟩,⟨k,l⟩⟩) 3).1.hi],.si .i64 (f ⟨⟨a,b⟩,⟨c,d⟩,⟨e,f'⟩⟩ ⟨⟨g,h⟩,⟨i,j⟩,⟨k,l⟩⟩).2],ds,dirO ⟨⟨a,b⟩,⟨c,d⟩,⟨e,f'⟩⟩++dirO ⟨⟨g,h⟩,⟨i,j⟩,⟨k,l⟩⟩)
 |_,_=>none
def kI3(f:I->I->I->I×Int)(o:I->I->I->Obs):List SV->Dec->Option (SV×Dec×Obs)
 | [.agg [.fl a,.fl b],.agg [.fl c,.fl d],.agg [.fl e,.fl g]],ds=>some (.tup [.agg [.fl (f ⟨a,b⟩ ⟨c,d⟩ ⟨e,g⟩).1.lo,.fl (f ⟨a,b⟩ ⟨c,d⟩ ⟨e,g⟩).1.hi],.si .i64 (f ⟨a,b⟩ ⟨c,d⟩ ⟨e,g⟩).2],ds,o ⟨a,b⟩ ⟨c,d⟩ ⟨e,g⟩)
 |_,_=>none
def kI2(f:I->I->I×Int)(o:I->I->Obs):List SV->Dec->Option (SV×Dec×Obs)
 | [.agg [.fl a,.fl b],.agg [.fl c,.fl d]],ds=>some (.tup [.agg [.fl (f ⟨a,b⟩ ⟨c,d⟩).1.lo,.fl (f ⟨a,b⟩ ⟨c,d⟩).1.hi],.si .i64 (f ⟨a,b⟩ ⟨c,d⟩).2],ds,o ⟨a,b⟩ ⟨c,d⟩)
 |_,_=>none
def kI1(f:I->I×Int)(o:I->Obs):List SV->Dec->Option (SV×Dec×Obs)
 | [.agg [.fl a,.fl b]],ds=>some (.tup [.agg [.fl (f ⟨a,b⟩).1.lo,.fl (f ⟨a,b⟩).1.hi],.si .i64 (f ⟨a,b⟩).2],ds,o ⟨a,b⟩)
 |_,_=>none
end Bu
namespace Go.Proofs.YtejcekikbnlllaaGreat
open Go.RowKit Bu Rx
def OLk(K:Kk):OracleF:=lookO (OCL K++ [(298,kMlook)])
theorem oracleLk:OracleOk prog (OLk KkR):=
 .cons addC <| .cons subC <| .cons mulC <| .cons divC <| .cons cmax_I <| .cons sqrC <| .cons csqrt_I <|
 .cons negC <|
 .cons numC <| .cons irtK.of <| .cons rightG.of <| .cons absG.of <| .cons vwG.of <| .cons piG.of <| .cons mlook_ok <| .nil _
theorem hfRun0(K:Kk)(v u:V3):valR ((run prog EG (OLk K) 80).1 299 [v.sv,u.sv] [] (some [false]))=some (.tup [ivS (gt (miK K v u).1 0),ivS (gt (miK K v u).1 3),.i .i64 0],some [],(neB (miK K v u).2,false)::(dirO v++dirO u)):=by kernel_rfl
theorem hfRun1(K:Kk)(v u:V3):valR ((run prog EG (OLk K) 80).1 299 [v.sv,u.sv] [] (some [true]))=some (.tup [ivS I.zero,ivS I.zero,.si .i64 (miK K v u).2],some [],(neB (miK K v u).2,true)::(dirO v++dirO u)):=by kernel_rfl
def g2O(c d al:I):Obs:=u01d d++ggO c al where u01d (d:I):Obs:=[(decide (d.hi.k<=one64.k),true),(decide (z64.k<=d.lo.k),true),(rt d,true)]
theorem g2Run(K:Kk)(c d al:I)(b:Bool):valR ((run prog EG (lookO (OCL K)) 80).1 301 [ivS c,ivS d,ivS al] [] (some [true,true,true,true,true,true,true,true,true,b]))=some (.tup (bif b then[ivS I.zero,.si .i64 (g2K K c d al).2]else[ivS (gt (g2K K c d al).1 0),.i .i64 0]),some [],(neB (g2K K c d al).2,b)::g2O c d al):=by cases b<;>kernel_rfl
theorem fdRun(K:Kk)(c n:I)(b:Bool):valR ((run prog EG (lookO (OCL K)) 80).1 66 [ivS c,ivS n] [] (some [true,true,false,false,false,false,b]))=some (.tup (bif b then[ivS I.zero,.si .i64 (fdK K c n).2]else[ivS (gt (fdK K c n).1 0),.i .i64 0]),some [],[(neB (fdK K c n).2,b),(decide (four64.k<n.hi.k),false),(decide (n.lo.k<minIo.k),false),(decide (one64.k<c.hi.k),false),(decide (c.lo.k<z64.k),false),(rt n,true),(rt c,true)]):=by cases b<;>kernel_rfl
theorem fcRun(K:Kk)(c m n:I)(b:Bool):valR ((run prog EG (lookO (OCL K)) 80).1 328 [ivS c,ivS m,ivS n] [] (some [true,true,true,false,false,false,false,false,false,b]))=some (.tup (bif b then[ivS I.zero,.si .i64 (fcK K c m n).2]else[ivS (gt (fcK K c m n).1 0),.i .i64 0]),some [],[(neB (fcK K c m n).2,b),(decide (maxMt.k<n.hi.k),false),(decide (n.lo.k<minMt.k),false),(decide (maxMt.k<m.hi.k),false),(decide (m.lo.k<minMt.k),false),(decide (one64.k<c.hi.k),false),(decide (c.lo.k<z64.k),false),(rt n,true),(rt m,true),(rt c,true)]):=by cases b<;>kernel_rfl
theorem lbRun(K:Kk)(r:I)(b:Bool):valR ((run prog EG (lookO (OCL K)) 80).1 297 [ivS r] [] (some [true,false,false,b]))=some (.tup (bif b then[ivS I.zero,.si .i64 (lbK K r).2]else[ivS (gt (lbK K r).1 0),.i .i64 0]),some [],[(neB (lbK K r).2,b),(decide (one64.k<r.hi.k),false),(decide (r.lo.k<z64.k),false),(rt r,true)]):=by cases b<;>kernel_rfl
end Go.Proofs.YtejcekikbnlllaaGreat
namespace Bu
open Rx Go
theorem ob_c{c b:Bool}{ob:Obs}(h:c=b)(k:ObsOk ob):ObsOk ((c,b)::ob):=fun q hq=>by
 rcases List.mem_cons.1 hq with rfl|hq
 ·exact h
 ·exact k q hq
theorem ob_n:ObsOk []:=fun _ h=>by cases h
theorem ob_a{a b:Obs}(h:ObsOk a)(k:ObsOk b):ObsOk (a++b):=fun q hq=>by
 rcases List.mem_append.1 hq with hq|hq
 ·exact h q hq
 ·exact k q hq
theorem ob_l{a b:Obs}(h:ObsOk (a++b)):ObsOk a:=fun q hq=>h q (List.mem_append_left _ hq)
theorem ob_r{a b:Obs}(h:ObsOk (a++b)):ObsOk b:=fun q hq=>h q (List.mem_append_right _ hq)
theorem ob_h{c b:Bool}{ob:Obs}(h:ObsOk ((c,b)::ob)):c=b:=h (c,b) (List.mem_cons_self ..)
theorem ob_t{c b:Bool}{ob:Obs}(h:ObsOk ((c,b)::ob)):ObsOk ob:=fun q hq=>h q (List.mem_cons_of_mem _ hq)
theorem not_lt{a b:Int}(h:decide (a<=b)=true):decide (b<a)=false:=dF (by have:=oTz h;omega)
def fdO(c n:I):Obs:=bndO n minIo four64++u01O c
def fcO(c m n:I):Obs:=bndO n minMt maxMt++(bndO m minMt maxMt++u01O c)
structure GlK where
 H:V3->V3->List I×Int
 d:I->I->I×Int
 b:I->I->I->I×Int
 o:I->I->I×Int
def glH(G:GlK)(v u:V3):I×I:=((lnR (G.H v u) 0).1,(lnR (G.H v u) 3).1)
def glE(K:Kk)(G:GlK)(v u:V3)(al:I):List I×Int:=evalK K miV [(G.o u.z al).1,(G.b v.z u.z al).1,(G.d (glH G v u).1 al).1,u.z,v.z] 0
def glErr(K:Kk)(G:GlK)(v u:V3)(al:I):Int:=bif neB (G.H v u).2 then(G.H v u).2 else bif neB (G.d (glH G v u).1 al).2 then(G.d (glH G v u).1 al).2 else bif neB (G.b v.z u.z al).2 then(G.b v.z u.z al).2 else bif neB (G.o u.z al).2 then(G.o u.z al).2 else(glE K G v u al).2
structure Gl4 where
 ln:I
 hf:I
 v:I
 d:I
def Gl4.sv(g:Gl4):SV:= .agg [.fl g.ln.lo,.fl g.ln.hi,.fl g.hf.lo,.fl g.hf.hi,.fl g.v.lo,.fl g.v.hi,.fl g.d.lo,.fl g.d.hi]
def Gl4.zero:Gl4:=⟨I.zero,I.zero,I.zero,I.zero⟩
def glV(K:Kk)(G:GlK)(v u:V3)(al:I):Gl4:=⟨(glH G v u).1,(glH G v u).2,gt (glE K G v u al).1 3,gt (glE K G v u al).1 0⟩
def glR(K:Kk)(G:GlK)(v u:V3)(al:I):Gl4×Int:=bif neB (glErr K G v u al)then(Gl4.zero,glErr K G v u al)else(glV K G v u al,0)
def glO(v u:V3)(al:I):Obs:=alO al++(dirO v++dirO u)
def kGl(f:V3->V3->I->Gl4×Int):List SV->Dec->Option (SV×Dec×Obs)
 | [.agg [.fl a, .fl b, .fl c, .fl d, .fl e, .fl f'], .agg [.fl g, .fl h, .fl i, .fl j, .fl k, .fl l], .agg [.fl p, .fl q]], ds =>
   some (.tup [(f ⟨⟨a,b⟩,⟨c,d⟩,⟨e,f'⟩⟩ ⟨⟨g,h⟩,⟨i,j⟩,⟨k,l⟩⟩ ⟨p,q⟩).1.sv,.si .i64 (f ⟨⟨a,b⟩,⟨c,d⟩,⟨e,f'⟩⟩ ⟨⟨g,h⟩,⟨i,j⟩,⟨k,l⟩⟩ ⟨p,q⟩).2],ds,glO ⟨⟨a,b⟩,⟨c,d⟩,⟨e,f'⟩⟩ ⟨⟨g,h⟩,⟨i,j⟩,⟨k,l⟩⟩ ⟨p,q⟩)
 |_,_=>none
end Bu
namespace Go.Proofs.YtejcekikbnlllaaGreat
open Go.RowKit Bu Rx
theorem I1_of{g:FuncId}{O:OracleF}(hO:OracleOk prog O){n:Nat}{E:I->List I×Int}{i:Nat}{o o':I->Obs}{l:Bool->List Bool}(run:∀c b,valR ((run prog EG O n).1 g [ivS c] [] (some (l b)))=some (.tup (bif b then[ivS I.zero,.si .i64 (E c).2]else[ivS (gt (E c).1 i),.i .i64 0]),some [],(neB (E c).2,b)::o' c))
  (ho:∀c,ObsOk (o c)->ObsOk (o' c)):PlainOk prog g (kI1 (fun c=>lnR (E c) i) o):=by
 intro args ds x ds' ob h hob;unfold kI1 at h;split at h
 ·rename_i a b;simp only[sIz,pIz]at h;obtain⟨rfl,_,rfl⟩:=h;refine⟨[.agg #[.float .f64 a.b,.float .f64 b.b]],_,rfl,rfl,fun w=> ?_⟩;have r:=run ⟨a,b⟩ (neB (E ⟨a,b⟩).2);unfold lnR;cases k:neB (E ⟨a,b⟩).2<;>rw[k]at r<;>exact calls_of_val goodG hO n r (ob_c rfl (ho _ hob)) rfl rfl w
 ·cases h
theorem I2_of{g:FuncId}{O:OracleF}(hO:OracleOk prog O){n:Nat}{E:I->I->List I×Int}{i:Nat}{o o':I->I->Obs}{l:Bool->List Bool}(run:∀c d b,valR ((run prog EG O n).1 g [ivS c,ivS d] [] (some (l b)))=some (.tup (bif b then[ivS I.zero,.si .i64 (E c d).2]else[ivS (gt (E c d).1 i),.i .i64 0]),some [],(neB (E c d).2,b)::o' c d))
  (ho:∀c d,ObsOk (o c d)->ObsOk (o' c d)):PlainOk prog g (kI2 (fun c d=>lnR (E c d) i) o):=by
 intro args ds x ds' ob h hob;unfold kI2 at h;split at h
 ·rename_i a b c d;simp only[sIz,pIz]at h;obtain⟨rfl,_,rfl⟩:=h;refine⟨[.agg #[.float .f64 a.b,.float .f64 b.b],.agg #[.float .f64 c.b,.float .f64 d.b]],_,rfl,rfl,fun w=> ?_⟩;have r:=run ⟨a,b⟩ ⟨c,d⟩ (neB (E ⟨a,b⟩ ⟨c,d⟩).2);unfold lnR;cases k:neB (E ⟨a,b⟩ ⟨c,d⟩).2<;>rw[k]at r<;>exact calls_of_val goodG hO n r (ob_c rfl (ho _ _ hob)) rfl rfl w
 ·cases h
theorem I3_of{g:FuncId}{O:OracleF}(hO:OracleOk prog O){n:Nat}{E:I->I->I->List I×Int}{i:Nat}{o o':I->I->I->Obs}{l:Bool->List Bool}(run:∀c d e b,valR ((run prog EG O n).1 g [ivS c,ivS d,ivS e] [] (some (l b)))=some (.tup (bif b then[ivS I.zero,.si .i64 (E c d e).2]else[ivS (gt (E c d e).1 i),.i .i64 0]),some [],(neB (E c d e).2,b)::o' c d e))
  (ho:∀c d e,ObsOk (o c d e)->ObsOk (o' c d e)):PlainOk prog g (kI3 (fun c d e=>lnR (E c d e) i) o):=by
 intro args ds x ds' ob h hob;unfold kI3 at h;split at h
 ·rename_i a b c d e f;simp only[sIz,pIz]at h;obtain⟨rfl,_,rfl⟩:=h;refine⟨[.agg #[.float .f64 a.b,.float .f64 b.b],.agg #[.float .f64 c.b,.float .f64 d.b],.agg #[.float .f64 e.b,.float .f64 f.b]],_,rfl,rfl,fun w=> ?_⟩;have r:=run ⟨a,b⟩ ⟨c,d⟩ ⟨e,f⟩ (neB (E ⟨a,b⟩ ⟨c,d⟩ ⟨e,f⟩).2);unfold lnR;cases k:neB (E ⟨a,b⟩ ⟨c,d⟩ ⟨e,f⟩).2<;>rw[k]at r<;>exact calls_of_val goodG hO n r (ob_c rfl (ho _ _ _ hob)) rfl rfl w
 ·cases h
theorem g2G:PlainOk prog 301 (kI3 (fun c d al=>lnR (g2K KkR c d al) 0) g2O):=I3_of oracleCL (l:=fun b=>[true,true,true,true,true,true,true,true,true,b]) (g2Run KkR) fun _ _ _ h=>h
theorem fdG:PlainOk prog 66 (kI2 (fun c n=>lnR (fdK KkR c n) 0) fdO):=I2_of oracleCL (l:=fun b=>[true,true,false,false,false,false,b]) (fdRun KkR) fun c n h=>by have a:=ob_l h;have b:=ob_r h;exact ob_c (not_lt (ob_h a)) (ob_c (not_lt (ob_h (ob_t a))) (ob_c (not_lt (ob_h b)) (ob_c (not_lt (ob_h (ob_t b))) (ob_c (ob_h (ob_t (ob_t a))) (ob_c (ob_h (ob_t (ob_t b))) ob_n)))))
theorem fcG:PlainOk prog 328 (kI3 (fun c m n=>lnR (fcK KkR c m n) 0) fcO):=I3_of oracleCL (l:=fun b=>[true,true,true,false,false,false,false,false,false,b]) (fcRun KkR) fun c m n h=>by have a:=ob_l h;have b:=ob_l (ob_r h);have e:=ob_r (ob_r h);exact ob_c (not_lt (ob_h a)) (ob_c (not_lt (ob_h (ob_t a))) (ob_c (not_lt (ob_h b)) (ob_c (not_lt (ob_h (ob_t b))) (ob_c (not_lt (ob_h e)) (ob_c (not_lt (ob_h (ob_t e))) (ob_c (ob_h (ob_t (ob_t a))) (ob_c (ob_h (ob_t (ob_t b))) (ob_c (ob_h (ob_t (ob_t e))) ob_n))))))))
theorem lbG:PlainOk prog 297 (kI1 (fun r=>lnR (lbK KkR r) 0) u01O):=I1_of oracleCL (l:=fun b=>[true,false,false,b]) (lbRun KkR) fun r h=>
 ob_c (not_lt (ob_h h)) (ob_c (not_lt (ob_h (ob_t h))) (ob_c (ob_h (ob_t (ob_t h))) ob_n))
theorem hfG:PlainOk prog 299 (kHf (miK KkR)):=by
 intro args ds x ds' ob h hob;unfold kHf at h;split at h
 ·rename_i a b c d e f g h' i j k l;simp only[sIz,pIz]at h;obtain⟨rfl,_,rfl⟩:=h;generalize hv:(⟨⟨a,b⟩,⟨c,d⟩,⟨e,f⟩⟩:V3)=v at*;generalize hu:(⟨⟨g,h'⟩,⟨i,j⟩,⟨k,l⟩⟩:V3)=u at*;have e1:(.agg [.fl a,.fl b,.fl c,.fl d,.fl e,.fl f]:SV)=v.sv:=by subst hv;rfl
  have e2:(.agg [.fl g,.fl h',.fl i,.fl j,.fl k,.fl l]:SV)=u.sv:=by subst hu;rfl
  rw[e1,e2];refine⟨[.agg #[.float .f64 v.x.lo.b,.float .f64 v.x.hi.b,.float .f64 v.y.lo.b,.float .f64 v.y.hi.b,.float .f64 v.z.lo.b,.float .f64 v.z.hi.b],.agg #[.float .f64 u.x.lo.b,.float .f64 u.x.hi.b,.float .f64 u.y.lo.b,.float .f64 u.y.hi.b,.float .f64 u.z.lo.b,.float .f64 u.z.hi.b]],_,rfl,rfl,fun w=> ?_⟩;unfold lnR;have r0:=hfRun0 KkR v u;have r1:=hfRun1 KkR v u;cases q:neB (miK KkR v u).2
  ·have z:(miK KkR v u).2=0:=neB_0 q;rw[z];simp only[cF];generalize gt (miK KkR v u).1 0=A at r0 ⊢;generalize gt (miK KkR v u).1 3=B at r0 ⊢;exact calls_of_val goodG oracleLk 80 r0 (ob_c q hob) rfl rfl w
  ·exact calls_of_val goodG oracleLk 80 r1 (ob_c q hob) rfl rfl w
 ·cases h
def OGl(K:Kk)(G:GlK):OracleF:=lookO (OCL K++ [(298,kMlook),(299,plainO (kHf G.H)),(300,plainO (kGg G.d)),(301,plainO (kI3 G.b g2O)),(302,plainO (kGg G.o))])
def GlR:GlK:=⟨miK KkR,ggR KkR ggD,fun c d al=>lnR (g2K KkR c d al) 0,ggR KkR gg1⟩
theorem oracleGl:OracleOk prog (OGl KkR GlR):=
 .cons addC <| .cons subC <| .cons mulC <| .cons divC <| .cons cmax_I <| .cons sqrC <| .cons csqrt_I <|
 .cons negC <|
 .cons numC <| .cons irtK.of <| .cons rightG.of <| .cons absG.of <| .cons vwG.of <| .cons piG.of <| .cons mlook_ok <| .cons hfG.of <| .cons ggDG.of <| .cons g2G.of <| .cons gg1G.of <| .nil _
def t3f:List Bool:=[true,false,false]
def glO'(v u:V3)(al:I):Obs:=(decide (one64.k<al.hi.k),false)::(decide (al.lo.k<minA.k),false)::(rt al,true)::(dirO v++dirO u)
def glA(K:Kk)(G:GlK)(v u:V3)(al:I)(b:Bool):Obs:=(neB (G.H v u).2,b)::(dirO v++dirO u++glO' v u al)
def glB(K:Kk)(G:GlK)(v u:V3)(al:I)(b:Bool):Obs:=(neB (G.d (glH G v u).1 al).2,b)::(ggO (glH G v u).1 al++glA K G v u al false)
def glC(K:Kk)(G:GlK)(v u:V3)(al:I)(b:Bool):Obs:=(neB (G.b v.z u.z al).2,b)::(g2O v.z u.z al++glB K G v u al false)
def glD(K:Kk)(G:GlK)(v u:V3)(al:I)(b:Bool):Obs:=(neB (G.o u.z al).2,b)::(ggO u.z al++glC K G v u al false)
theorem glRunA(K:Kk)(G:GlK)(v u:V3)(al:I):valR ((run prog EG (OGl K G) 80).1 234 [v.sv,u.sv,ivS al] [] (some (t3f++ [true])))=some (.tup [Gl4.zero.sv,.si .i64 (G.H v u).2],some [],glA K G v u al true):=by kernel_rfl
theorem glRunB(K:Kk)(G:GlK)(v u:V3)(al:I):valR ((run prog EG (OGl K G) 80).1 234 [v.sv,u.sv,ivS al] [] (some (t3f++ [false,true])))=some (.tup [Gl4.zero.sv,.si .i64 (G.d (glH G v u).1 al).2],some [],glB K G v u al true):=by kernel_rfl
theorem glRunC(K:Kk)(G:GlK)(v u:V3)(al:I):valR ((run prog EG (OGl K G) 80).1 234 [v.sv,u.sv,ivS al] [] (some (t3f++ [false,false,true])))=some (.tup [Gl4.zero.sv,.si .i64 (G.b v.z u.z al).2],some [],glC K G v u al true):=by kernel_rfl
theorem glRunD(K:Kk)(G:GlK)(v u:V3)(al:I):valR ((run prog EG (OGl K G) 80).1 234 [v.sv,u.sv,ivS al] [] (some (t3f++ [false,false,false,true])))=some (.tup [Gl4.zero.sv,.si .i64 (G.o u.z al).2],some [],glD K G v u al true):=by kernel_rfl
theorem glRunE(K:Kk)(G:GlK)(v u:V3)(al:I):valR ((run prog EG (OGl K G) 80).1 234 [v.sv,u.sv,ivS al] [] (some (t3f++ [false,false,false,false,true])))=some (.tup [Gl4.zero.sv,.si .i64 (glE K G v u al).2],some [],(neB (glE K G v u al).2,true)::glD K G v u al false):=by kernel_rfl
theorem glRunF(K:Kk)(G:GlK)(v u:V3)(al:I):valR ((run prog EG (OGl K G) 80).1 234 [v.sv,u.sv,ivS al] [] (some (t3f++ [false,false,false,false,false])))=some (.tup [(glV K G v u al).sv,.i .i64 0],some [],(neB (glE K G v u al).2,false)::glD K G v u al false):=by kernel_rfl
end Go.Proofs.YtejcekikbnlllaaGreat
namespace Bu
open Rx Go
theorem hl_in{v u:V3}(h:(miK KkR v u).2=0):ObsOk (u01O (gt (miK KkR v u).1 0))/\ObsOk (u01O (gt (miK KkR v u).1 3)):=by
 obtain⟨_,k⟩:=eval_chain h;unfold miK at*;generalize (evalK KkR miH [u.z,u.y,u.x,v.z,v.y,v.x] 0).1=r at*;obtain⟨ax,hax,ay,hay,az,haz,qx,hqx,qy,hqy,s1,hs1,qz,hqz,s2,hs2,n,hn,h0,hh0,h1,hh1,half,hhalf,l1,hl1,l2,hl2,lean,hlean,hend⟩:=k;subst hend;have zk:z64.k<=one64.k:=by decide+kernel
 have kz:∀{a b:I},rt a=true->b=keptI a z64 one64->ObsOk (u01O b):=by intro a b ha hb;subst hb;obtain⟨e1,e2⟩:=keptI_k a z64 one64;have:=oTz ha;exact ob_c (dT (by rw[e2];omega)) (ob_c (dT (by rw[e1];omega)) (ob_c (keptI_rt ha) ob_n))
 have r1:rt h1=true:=AllR.rt hh1;have r2:rt l2=true:=AllR.rt hl2.2;exact⟨kz r2 hlean,kz r1 hhalf⟩
theorem dir_z{v:V3}(h:ObsOk (dirO v)):ObsOk (u01O v.z):=ob_c (ob_h h) (ob_c (ob_h (ob_t h)) (ob_c (ob_h (ob_t (ob_t (ob_t (ob_t (ob_t (ob_t h))))))) ob_n))
theorem gg_of{c al:I}(h:ObsOk (u01O c))(ha:ObsOk (alO al)):ObsOk (ggO c al):=ob_a h ha
end Bu
namespace Go.Proofs.YtejcekikbnlllaaGreat
open Go.RowKit Bu Rx
theorem g2_of{c d al:I}(h:ObsOk (u01O c))(k:ObsOk (u01O d))(ha:ObsOk (alO al)):ObsOk (g2O c d al):=ob_a k (ob_a h ha)
theorem plV(v:V3):plain v.sv=some (.agg #[.float .f64 v.x.lo.b,.float .f64 v.x.hi.b,.float .f64 v.y.lo.b,.float .f64 v.y.hi.b,.float .f64 v.z.lo.b,.float .f64 v.z.hi.b]):=rfl
theorem plI(a:I):plain (ivS a)=some (.agg #[.float .f64 a.lo.b,.float .f64 a.hi.b]):=rfl
theorem plG(g:Gl4)(k:Int):plain (.tup [g.sv,.si .i64 k])=some (.tuple #[.agg #[.float .f64 g.ln.lo.b,.float .f64 g.ln.hi.b,.float .f64 g.hf.lo.b,.float .f64 g.hf.hi.b,.float .f64 g.v.lo.b,.float .f64 g.v.hi.b,.float .f64 g.d.lo.b,.float .f64 g.d.hi.b],.int .i64 k])/\plain (.tup [g.sv,.i .i64 k])=some (.tuple #[.agg #[.float .f64 g.ln.lo.b,.float .f64 g.ln.hi.b,.float .f64 g.hf.lo.b,.float .f64 g.hf.hi.b,.float .f64 g.v.lo.b,.float .f64 g.v.hi.b,.float .f64 g.d.lo.b,.float .f64 g.d.hi.b],.int .i64 k]):=⟨rfl,rfl⟩
theorem glG:PlainOk prog 234 (kGl (glR KkR GlR)):=by
 intro args ds x ds' ob h hob;unfold kGl at h;split at h
 ·rename_i a b c d e f g h' i j k l p q;simp only[sIz,pIz]at h;obtain⟨rfl,_,rfl⟩:=h;generalize hv:(⟨⟨a,b⟩,⟨c,d⟩,⟨e,f⟩⟩:V3)=v at*;generalize hu:(⟨⟨g,h'⟩,⟨i,j⟩,⟨k,l⟩⟩:V3)=u at*;generalize hal:(⟨p,q⟩:I)=al at*;have e1:(.agg [.fl a,.fl b,.fl c,.fl d,.fl e,.fl f]:SV)=v.sv:=by subst hv;rfl
  have e2:(.agg [.fl g,.fl h',.fl i,.fl j,.fl k,.fl l]:SV)=u.sv:=by subst hu;rfl
  have e3:(.agg [.fl p,.fl q]:SV)=ivS al:=by subst hal;rfl
  rw[e1,e2,e3];have oa:ObsOk (alO al):=ob_l hob;have ov:ObsOk (dirO v):=ob_l (ob_r hob);have ou:ObsOk (dirO u):=ob_r (ob_r hob);have hargs:=plains_cons (plV v) (plains_cons (plV u) (plains_cons (plI al) plains_nil));refine⟨_,_,hargs,(plG _ _).1,fun w=> ?_⟩;have o':ObsOk (glO' v u al):=ob_c (not_lt (ob_h oa)) (ob_c (not_lt (ob_h (ob_t oa))) (ob_c (ob_h (ob_t (ob_t oa))) (ob_a ov ou)));have rA:=glRunA KkR GlR v u al;have rB:=glRunB KkR GlR v u al;have rC:=glRunC KkR GlR v u al;have rD:=glRunD KkR GlR v u al;have rE:=glRunE KkR GlR v u al;have rF:=glRunF KkR GlR v u al;have hl:(GlR.H v u).2=0->ObsOk (u01O (glH GlR v u).1):=by intro z;have:=(hl_in (v:=v) (u:=u) z).1;unfold glH lnR;rw[show neB (GlR.H v u).2=false by rw[z];rfl];exact this
  unfold glR;unfold glErr;have oA:∀t,neB (GlR.H v u).2=t->ObsOk (glA KkR GlR v u al t):=fun t ht=>ob_c ht (ob_a (ob_a ov ou) o');cases q1:neB (GlR.H v u).2
  ·have z1:=hl (neB_0 q1);have oB:∀t,neB (GlR.d (glH GlR v u).1 al).2=t->ObsOk (glB KkR GlR v u al t):=fun t ht=>ob_c ht (ob_a (gg_of z1 oa) (oA _ q1));simp only[cF];cases q2:neB (GlR.d (glH GlR v u).1 al).2
   ·have oC:∀t,neB (GlR.b v.z u.z al).2=t->ObsOk (glC KkR GlR v u al t):=fun t ht=>ob_c ht (ob_a (g2_of (dir_z ov) (dir_z ou) oa) (oB _ q2));simp only[cF];cases q3:neB (GlR.b v.z u.z al).2
    ·have oD:∀t,neB (GlR.o u.z al).2=t->ObsOk (glD KkR GlR v u al t):=fun t ht=>ob_c ht (ob_a (gg_of (dir_z ou) oa) (oC _ q3));simp only[cF];cases q4:neB (GlR.o u.z al).2
     ·simp only[cF];cases q5:neB (glE KkR GlR v u al).2
      ·simp only[cF];generalize glV KkR GlR v u al=V at*;exact calls_of_val goodG oracleGl 80 rF (ob_c q5 (oD _ q4)) hargs (plG _ _).2 w
      ·simp only[cT];exact calls_of_val goodG oracleGl 80 rE (ob_c q5 (oD _ q4)) hargs (plG _ _).1 w
     ·simp only[cT,q4];exact calls_of_val goodG oracleGl 80 rD (oD _ q4) hargs (plG _ _).1 w
    ·simp only[cT,q3];exact calls_of_val goodG oracleGl 80 rC (oC _ q3) hargs (plG _ _).1 w
   ·simp only[cT,q2];exact calls_of_val goodG oracleGl 80 rB (oB _ q2) hargs (plG _ _).1 w
  ·simp only[cT,q1];exact calls_of_val goodG oracleGl 80 rA (oA _ q1) hargs (plG _ _).1 w
 ·cases h
end Go.Proofs.YtejcekikbnlllaaGreat
namespace Rx
open Go Go.RowKit
theorem isSome_eq{α:Type}{x:Option α}{d:α}(h:x.isSome=true):x=some (x.getD d):=by cases x with
 |none=>cases h
 |some a=>rfl
def stO(P:Program)(E:ExtF)(O:OracleF)(n:Nat)(c:Code)(s:St):St:=match (run P E O n).2 c s with|some (_,s')=>s'|none=>s
def exO(P:Program)(E:ExtF)(O:OracleF)(n:Nat)(c:Code)(s:St)(ex:Ex):Prop:=(run P E O n).2 c s=some (ex,stO P E O n c s)
def rnO(P:Program)(E:ExtF)(O:OracleF)(n:Nat)(ops:Array Oper)(l:List Oper)(s:St):St:=(runOps P E (run P E O n).1 ops l s).getD s
def opsOf:Code->Array Oper| .region _ ops _=>ops|_=> #[]
theorem calls_of_ends{P:Program}{g:FuncId}{fn:Func}{c:Code}{args:List SV}{x:SV}{vs:List Value}{v:Value}(hg:P.funcs[g]? =some fn)(hb:fn.body=some c)(hvs:plains args=some vs)(hv:plain x=some v)(w:World)
  (h:∀(a:Act)(Q:Exit->Act->World->Prop),StAt Nms.no ⟨args++List.replicate (fn.ntmps-args.length) (.tup []),[],none,[]⟩ a w->
   (∀m' s' a' w',resultS P fn s'=some x->StAt m' s' a' w'->Goes Nms.no [] w m' s'.M w'->Q .ret a' w')->c.wp P Q a w) :
  Calls P g vs.toArray w fun e w'=>e= .returned v/\Below w.heap.size w w':=by
 have hvs':=dens_plains (m:=Nms.no) hvs;have hl:=dens_length hvs';refine calls_of_wp hg hb ?_;have htm:dens Nms.no (args++List.replicate (fn.ntmps-args.length) (.tup []))=some (vs.toArray++Array.replicate (fn.ntmps-vs.toArray.size) undef).toList:=by have:=dens_append hvs' (dens_replicate (undef_den Nms.no) (fn.ntmps-args.length));rw[this];simp[hl]
 refine h _ _ ⟨htm,rfl,MemAt.no w⟩ fun m' s' a' w' hx hst hgo=> ?_;obtain⟨u,hu,hr⟩:=resultS_ok hst hx;have:=den_plain (m:=m') hv;rw[hu]at this;simp only[sIz]at this;subst this;exact⟨hst.df,u,hr,rfl,hgo.none⟩
end Rx
namespace Go.Proofs.YtejcekikbnlllaaGreat
open Go.RowKit Bu Rx
def nodeS(k:Int)(f:Nat->F):SV:= .agg [.i .u8 k,.fl (f 0),.fl (f 1),.fl (f 2),.fl (f 3),.fl (f 4),.fl (f 5),.fl (f 6),.fl (f 7),.fl (f 8),.fl (f 9),.fl (f 10),.fl (f 11),.fl (f 12),.fl (f 13),.fl (f 14),.fl (f 15),.i .i64 0,.i .i64 0]
def leafS(k:Int)(f:Nat->F)(c:Int)(v u:V3):SV:= .agg [.i .u8 k,.fl (f 0),.fl (f 1),.fl (f 2),.fl (f 3),.fl (f 4),.fl (f 5),.fl (f 6),.fl (f 7),.fl (f 8),.fl (f 9),.fl (f 10),.fl (f 11),.fl (f 12),.fl (f 13),.fl (f 14),.fl (f 15),.i .i64 0,.i .i64 0,.si .i64 c,.fl v.x.lo,.fl v.x.hi,.fl v.y.lo,.fl v.y.hi,.fl v.z.lo,.fl v.z.hi,.fl u.x.lo,.fl u.x.hi,.fl u.y.lo,.fl u.y.hi,.fl u.z.lo,.fl u.z.hi]
def kLk(o:SV->Obs):List SV->Dec->Option (SV×Dec×Obs)
 | [x],ds=>some (.i .i64 0,ds,o x)
 |_,_=>none
def kLf(g:SV->I×Int)(o:SV->Obs):List SV->Dec->Option (SV×Dec×Obs)
 | [x],ds=>some (.tup [.agg [.fl (g x).1.lo,.fl (g x).1.hi],.si .i64 (g x).2],ds,o x)
 |_,_=>none
structure Lfs where
 lk:SV->Obs
 g:SV->I×Int
 o:SV->Obs
noncomputable def OVl(L:Lfs)(m:Nat):OracleF:=lookO [(232,plainO (kLk L.lk)),(m,plainO (kLf L.g L.o))]
noncomputable def vC:Code:=bodyOf prog 231
noncomputable def vR0:Code:=seqL vC
noncomputable def vR1:Code:=seqL (seqR vC)
noncomputable def vX:Code:=seqL (seqR (seqR vC))
noncomputable def vR5:Code:=seqL (seqR (seqR (seqR vC)))
noncomputable def vR6:Code:=seqL (seqR (seqR (seqR (seqR vC))))
noncomputable def vT:Code:=seqR (seqR (seqR (seqR (seqR vC))))
theorem vC_cut:vC= .seq vR0 (.seq vR1 (.seq vX (.seq vR5 (.seq vR6 vT)))):=by kernel_rfl
theorem vBody:Tryz.f231.body=some vC:=by kernel_rfl
theorem vR5_ops:vR5= .region 5 (opsOf vR5) false:=by kernel_rfl
theorem vR6_ops:vR6= .region 6 (opsOf vR6) false:=by kernel_rfl
section
variable (L:Lfs) (g:Nat) (k:Int) (f:Nat->F) (c:Int) (v u:V3) (r:Nat)
def vArgs:List SV:=[nodeS k f,.si .i64 c,v.sv,u.sv]
noncomputable def vs0:St:=⟨vArgs k f c v u++List.replicate 30 (.tup []),[],none,[]⟩
noncomputable def vs1:St:=stO prog EG (OVl L g) 60 vR0 (vs0 k f c v u)
noncomputable def vs2:St:=stO prog EG (OVl L g) 60 vR1 (vs1 L g k f c v u)
noncomputable def vs3:St:=stO prog EG (OVl L g) 60 vX (vs2 L g k f c v u)
noncomputable def vsM:St:=⟨putT (some 24) (.o (.map (some r))) (vs3 L g k f c v u).T,(vs3 L g k f c v u).M,(vs3 L g k f c v u).ds,(vs3 L g k f c v u).ob⟩
noncomputable def vs5:St:=rnO prog EG (OVl L g) 60 (opsOf vR5) ((opsOf vR5).toList.drop 5) (vsM L g k f c v u r)
noncomputable def vs6:St:=rnO prog EG (OVl L g) 60 (opsOf vR6) ((opsOf vR6).toList.take 3) (vs5 L g k f c v u r)
noncomputable def vsL:St:=⟨putT (some 29) (.fn (.func g) [] []) (vs6 L g k f c v u r).T,(vs6 L g k f c v u r).M,(vs6 L g k f c v u r).ds,(vs6 L g k f c v u r).ob⟩
noncomputable def vs7:St:=rnO prog EG (OVl L g) 60 (opsOf vR6) ((opsOf vR6).toList.drop 4) (vsL L g k f c v u r)
noncomputable def vs8:St:=stO prog EG (OVl L g) 60 vT (vs7 L g k f c v u r)
theorem ve0:exO prog EG (OVl L g) 60 vR0 (vs0 k f c v u) .normal:=by unfold exO;kernel_rfl
theorem ve1:exO prog EG (OVl L g) 60 vR1 (vs1 L g k f c v u) .normal:=by unfold exO;kernel_rfl
theorem ve2:exO prog EG (OVl L g) 60 vX (vs2 L g k f c v u) .normal:=by unfold exO;kernel_rfl
theorem ve5:(runOps prog EG (run prog EG (OVl L g) 60).1 (opsOf vR5) ((opsOf vR5).toList.drop 5) (vsM L g k f c v u r)).isSome=true:=by kernel_rfl
theorem ve6:(runOps prog EG (run prog EG (OVl L g) 60).1 (opsOf vR6) ((opsOf vR6).toList.take 3) (vs5 L g k f c v u r)).isSome=true:=by kernel_rfl
theorem vob1:(vs1 L g k f c v u).ob=[]:=by kernel_rfl
theorem vob2:(vs2 L g k f c v u).ob=[]:=by kernel_rfl
theorem vob3:(vs3 L g k f c v u).ob=L.lk (leafS k f c v u)++ []:=by kernel_rfl
theorem vob5:(vs5 L g k f c v u r).ob=L.lk (leafS k f c v u)++ []:=by kernel_rfl
theorem vob6:(vs6 L g k f c v u r).ob=L.lk (leafS k f c v u)++ []:=by kernel_rfl
theorem vlen3:(vs3 L g k f c v u).T.length=34:=by kernel_rfl
theorem vop26:oper (vs6 L g k f c v u r).T (.tmp 26)= .o (.map (some r)):=by kernel_rfl
theorem vop28:oper (vs6 L g k f c v u r).T (.tmp 28)= .i .u8 k:=by kernel_rfl
end
noncomputable def o5(i:Nat):Oper:=(opsOf vR5).toList.getD i default
noncomputable def o6(i:Nat):Oper:=(opsOf vR6).toList.getD i default
theorem l5:(opsOf vR5).toList=o5 0::o5 1::o5 2::o5 3::o5 4::(opsOf vR5).toList.drop 5:=by kernel_rfl
theorem l6:(opsOf vR6).toList=(opsOf vR6).toList.take 3++o6 3::(opsOf vR6).toList.drop 4:=by kernel_rfl
theorem g5:(o5 0).guard=none/\(o5 1).guard=none/\(o5 2).guard=none/\(o5 3).guard=none/\(o5 4).guard=none/\(o6 3).guard=none:=⟨by kernel_rfl,by kernel_rfl,by kernel_rfl,by kernel_rfl,by kernel_rfl,by kernel_rfl⟩
theorem d5:(o5 0).dst=some 24/\(o5 1).dst=none/\(o5 2).dst=none/\(o5 3).dst=none/\(o5 4).dst=none/\(o6 3).dst=some 29:=⟨by kernel_rfl,by kernel_rfl,by kernel_rfl,by kernel_rfl,by kernel_rfl,by kernel_rfl⟩
theorem p5:(o5 0).op=Op.makeMap 309 none/\(o5 1).op=Op.insert 309 (.tmp 24) (.const (.int .u8 1)) (.func 292)/\(o5 2).op=Op.insert 309 (.tmp 24) (.const (.int .u8 2)) (.func 293)/\(o5 3).op=Op.insert 309 (.tmp 24) (.const (.int .u8 3)) (.func 294)/\(o5 4).op=Op.insert 309 (.tmp 24) (.const (.int .u8 4)) (.func 295)/\(o6 3).op=Op.lookup 309 (.tmp 26) (.tmp 28) false:=⟨by kernel_rfl,by kernel_rfl,by kernel_rfl,by kernel_rfl,by kernel_rfl,by kernel_rfl⟩
theorem uM:Tryz.prog.underlying 309=some (.map 5 308):=by kernel_rfl
theorem uK:Tryz.prog.underlying 5=some (.int .u8):=by kernel_rfl
theorem zF(w:World):(zeroValue 308).run prog w= .ok .nilFunc w:=by kernel_rfl
attribute [irreducible] o5 o6 vC vR0 vR1 vX vR5 vR6 vT
set_option maxHeartbeats 1000000 in
theorem value_of{L:Lfs}{g:Nat}{k:Int}(f:Nat->F)(c:Int)(v u:V3)(hO:OracleOk prog (OVl L g))(hwf:(Lit.int .u8 k).wf=true)
  (hat:(tabD 292 293 294 295).atKey (.int .u8 k) (.lit (.bool false))= .lit (.int .i64 (g:Int)))
  (h7:∀r,(runOps prog EG (run prog EG (OVl L g) 60).1 (opsOf vR6) ((opsOf vR6).toList.drop 4) (vsL L g k f c v u r)).isSome=true)
  (h8:∀r,exO prog EG (OVl L g) 60 vT (vs7 L g k f c v u r) .ret)
  (hob7:∀r,(vs7 L g k f c v u r).ob=L.o (leafS k f c v u)++(L.lk (leafS k f c v u)++ [])) (hob8:∀r,(vs8 L g k f c v u r).ob=L.o (leafS k f c v u)++(L.lk (leafS k f c v u)++ []))
  (hres:∀r,resultS prog Tryz.f231 (vs8 L g k f c v u r)=some (.tup [ivS (L.g (leafS k f c v u)).1,.si .i64 (L.g (leafS k f c v u)).2]))
  (hlk:ObsOk (L.lk (leafS k f c v u))) (ho:ObsOk (L.o (leafS k f c v u))) {vs:List Value} (hvs:plains (vArgs k f c v u)=some vs) (w:World) :
  Calls prog 231 vs.toArray w fun e w'=>e= .returned (.tuple #[.agg #[.float .f64 (L.g (leafS k f c v u)).1.lo.b,.float .f64 (L.g (leafS k f c v u)).1.hi.b],.int .i64 (L.g (leafS k f c v u)).2])/\Below w.heap.size w w':=by
 have hl0:ObsOk (L.lk (leafS k f c v u)++ []):=ob_a hlk ob_n;have hall:ObsOk (L.o (leafS k f c v u)++(L.lk (leafS k f c v u)++ [])):=ob_a ho hl0;have hcall:=(run_ok goodG hO 60).1;refine calls_of_ends (x:= .tup [ivS (L.g (leafS k f c v u)).1,.si .i64 (L.g (leafS k f c v u)).2]) Tryz.func231 vBody hvs rfl w fun a Q hs hq=> ?_;rw[vC_cut];refine wp_seq (RunsTo.of goodG hO (ve0 L g k f c v u) (by show ObsOk (vs1 L g k f c v u).ob;rw[vob1];exact ob_n) _ a w _ hs fun m1 a1 w1 hs1 go1=> ?_);refine wp_seq (RunsTo.of goodG hO (ve1 L g k f c v u) (by show ObsOk (vs2 L g k f c v u).ob;rw[vob2];exact ob_n) m1 a1 w1 _ hs1 fun m2 a2 w2 hs2 go2=> ?_);refine wp_seq (RunsTo.of goodG hO (ve2 L g k f c v u) (by show ObsOk (vs3 L g k f c v u).ob;rw[vob3];exact hl0) m2 a2 w2 _ hs2 fun m3 a3 w3 hs3 go3=> ?_);have hs3':StAt m3 (vs3 L g k f c v u) a3 w3:=hs3;refine wp_seq ?_;rw[vR5_ops];refine wp_region_list ?_;rw[l5];have hsz:24<a3.tmps.size:=by have e:=dens_length hs3'.tm;rw[vlen3]at e;have:a3.tmps.toList.length=a3.tmps.size:=Array.length_toList;omega
 obtain⟨q0,q1,q2,q3,q4,q5⟩:=g5;obtain⟨e0,e1,e2,e3,e4,e5⟩:=d5;obtain⟨p0,p1,p2,p3,p4,p6⟩:=p5;refine tab_made uK uM q0 q1 q2 q3 q4 p0 e0 e1 e2 e3 e4 p1 p2 p3 p4 hsz hs3' fun r aM wM own hbM hr hsM goM=> ?_;have h5:=isSome_eq (d:=vsM L g k f c v u r) (ve5 L g k f c v u r);refine runOps_ok goodG hcall h5 (by show ObsOk (vs5 L g k f c v u r).ob;rw[vob5];exact hl0) hsM fun m5 a5 w5 hs5 go5=> ?_;refine wp_seq ?_;rw[vR6_ops];refine wp_region_list ?_;rw[l6];have h6:=isSome_eq (d:=vs5 L g k f c v u r) (ve6 L g k f c v u r);refine runOps_then goodG hcall h6 (by show ObsOk (vs6 L g k f c v u r).ob;rw[vob6];exact hl0) hs5 fun m6 a6 w6 hs6 go6=> ?_;have hs6':StAt m6 (vs6 L g k f c v u r) a6 w6:=hs6;have rM:r<wM.heap.size:=own.lt;have n3:∀n,m3 n≠some r:=fun n h=>by have:=hs3'.mem.ok.lt n r h;omega
 have n5:∀n,m5 n≠some r:=fun n h=>by
  rcases go5.new n r h with h|h|⟨q,h,_⟩
  ·exact n3 n h
  ·omega
  ·exact n3 q h
 have b5:=go5.fr.block r rM (fun⟨n,h,_⟩=>n3 n h);have b6:=go6.fr.block r (Nat.lt_of_lt_of_le rM go5.fr.size) (fun⟨n,h,_⟩=>n5 n h);have own6:w6.ownsMap prog 5 fnR r 4 (tabD 292 293 294 295):=by obtain⟨es,cl,hb,rest⟩:=own;exact⟨es,cl,(b6.trans b5).trans hb,rest⟩
 have v26:a6.eval (.tmp 26)= .map (some r):=by have h:=oper_ok hs6'.tm (.tmp 26);rw[vop26]at h;simp[den]at h;exact h.symm
 have v28:a6.eval (.tmp 28)= .int .u8 k:=by have h:=oper_ok hs6'.tm (.tmp 28);rw[vop28]at h;simp[den]at h;exact h.symm
 refine wpList_lookup_fn w6 q5 _ _ _ p6 _ _ (Go.Maps.int_keyed uK) uM (zF w6) r 4 _ v26 own6 _ _ v28 (Go.Maps.keyOf_int_mk uK hwf) g hat ?_;rw[e5];have hsL:StAt m6 (vsL L g k f c v u r) (a6.put (some 29) (.func (.func g) #[] #[])) w6:=⟨putT_ok hs6'.tm (x:= .fn (.func g) [] []) (by simp[den,dens]) (some 29),hs6'.df,hs6'.mem⟩;have h7':=isSome_eq (d:=vsL L g k f c v u r) (h7 r);refine runOps_ok goodG hcall h7' (by show ObsOk (vs7 L g k f c v u r).ob;rw[hob7];exact hall) hsL fun m7 a7 w7 hs7 go7=> ?_;refine RunsTo.of goodG hO (h8 r) (by show ObsOk (vs8 L g k f c v u r).ob;rw[hob8];exact hall) m7 a7 w7 _ hs7 fun m8 a8 w8 hs8 go8=> ?_;exact hq m8 _ a8 w8 (hres r) hs8 (((((((go1.trans go2).trans go3).trans goM).trans go5).trans go6).trans go7).trans go8)
end Go.Proofs.YtejcekikbnlllaaGreat
namespace Bu
open Rx Go
def q3E(f b:Nat->F)(i:Nat):Bool:=decide ((f i).k=(b i).k)&&(decide ((f (i+1)).k=(b (i+1)).k)&&(decide ((f (i+2)).k=(b (i+2)).k)&&true))
def eqNd(f b:Nat->F):Bool:=q3E f b 0&&(q3E f b 3&&(q3E f b 6&&(q3E f b 9&&(decide ((f 12).k=(b 12).k)&&(decide ((f 13).k=(b 13).k)&&(decide ((f 14).k=(b 14).k)&&(decide ((f 15).k=(b 15).k)&&((0:Int)==0&&((0:Int)==0&&true)))))))))
def bare1(f:Nat->F)(i:Nat):F:=bif Nat.blt i 3 then f i else z64
def bare2(f:Nat->F)(i:Nat):F:=bif Nat.blt i 3||Nat.beq i 12 then f i else z64
def bare3(f:Nat->F)(i:Nat):F:=bif Nat.beq i 13||Nat.beq i 14 then f i else z64
def bare4(f:Nat->F)(i:Nat):F:=bif Nat.beq i 13||(Nat.blt 5 i&&Nat.blt i 12)then f i else z64
def rngO(x l h:F)(o:Obs):Obs:=(decide (h.k<x.k),false)::(decide (x.k<l.k),false)::o
def rtO1(f:Nat->F):Obs:=(eqNd f (bare1 f),true)::rngO (f 2) z64 one64 (rngO (f 1) z64 one64 (rngO (f 0) z64 one64 []))
def rtO2(f:Nat->F):Obs:=(eqNd f (bare2 f),true)::rngO (f 12) z64 one64 (rngO (f 2) z64 one64 (rngO (f 1) z64 one64 (rngO (f 0) z64 one64 [])))
def rtO3(f:Nat->F):Obs:=(eqNd f (bare3 f),true)::rngO (f 14) minIo four64 (rngO (f 13) minA one64 [])
def rtO4(f:Nat->F):Obs:=(eqNd f (bare4 f),true)::rngO (f 11) minMt maxMt (rngO (f 10) minMt maxMt (rngO (f 9) minMt maxMt (rngO (f 8) minMt maxMt (rngO (f 7) minMt maxMt (rngO (f 6) minMt maxMt (rngO (f 13) minA one64 []))))))
def rtOb(k:Int)(f:Nat->F):Obs:=match k with
 |1=>rtO1 f
 |2=>rtO2 f
 |3=>rtO3 f
 |4=>rtO4 f
 |_=>[(false,true)]
def orA:List Op:=[.mul 2 1,.sub 1 0,.kept mone64 one64 0,.lit (PIc),.num (two64),.num (one64),.div 2 1,.num (three64),.div 3 0,.sub 2 0,.mul 0 13,.add 7 0,.div 6 0,.mul 16 0,.mul 0 11,.add 2 0,.mul 20 0,.kept z64 one64 0]
def orB:List Op:=[.mul 2 1,.sub 1 0,.max 4 3,.div 1 0,.kept mone64 one64 0,.lit (PIc),.num (two64),.num (one64),.div 2 1,.num (three64),.div 3 0,.sub 2 0,.mul 0 15,.add 7 0,.div 6 0,.mul 18 0,.mul 0 11,.add 2 0,.mul 22 0,.kept z64 one64 0]
def posH(a:I):I:=⟨z64,a.hi⟩
def negH(a:I):I:=⟨a.lo,z64⟩
def orC:List Op:=[.mul 2 1,.sub 1 0,.fn (posH) 0,.max 5 4,.div 1 0,.fn (negH) 3,.fn2 (hullI) 0 1,.kept mone64 one64 0,.lit (PIc),.num (two64),.num (one64),.div 2 1,.num (three64),.div 3 0,.sub 2 0,.mul 0 18,.add 7 0,.div 6 0,.mul 21 0,.mul 0 11,.add 2 0,.mul 25 0,.kept z64 one64 0]
def orQ(K:Kk)(i o d:I):I:=(K.sub (K.mul 0 i o).2 d (K.mul 0 i o).1).1
def orE(K:Kk)(l:List Op)(rho sg i o d:I):List I×Int:=evalK K l [d,o,i,sg,rho] 0
def orOb(rho sg i o d:I):Obs:=rng2 d mone64 (rng2 o z64 (rng2 i z64 (rng2 sg z64 (rng2 rho z64 [(rt d,true),(rt o,true),(rt i,true),(rt sg,true),(rt rho,true)]))))
where rng2 (a:I) (l:F) (o:Obs):Obs:=(decide (one64.k<a.hi.k),false)::(decide (a.lo.k<l.k),false)::o
end Bu
namespace Go.Proofs.YtejcekikbnlllaaGreat
open Go.RowKit Bu Rx
theorem rtRun1(K:Kk)(f:Nat->F):valR ((run prog EG (lookO (OCL K)) 80).1 296 [nodeS 1 f] [] (some [false,false,false,false,false,false,true]))=some (.b true,some [],rtO1 f):=by kernel_rfl
theorem rtRun2(K:Kk)(f:Nat->F):valR ((run prog EG (lookO (OCL K)) 80).1 296 [nodeS 2 f] [] (some [false,false,false,false,false,false,false,false,true]))=some (.b true,some [],rtO2 f):=by kernel_rfl
theorem rtRun3(K:Kk)(f:Nat->F):valR ((run prog EG (lookO (OCL K)) 80).1 296 [nodeS 3 f] [] (some [false,false,false,false,true]))=some (.b true,some [],rtO3 f):=by kernel_rfl
theorem rtRun4(K:Kk)(f:Nat->F):valR ((run prog EG (lookO (OCL K)) 80).1 296 [nodeS 4 f] [] (some [false,false,false,false,false,false,false,false,false,false,false,false,false,false,true]))=some (.b true,some [],rtO4 f):=by kernel_rfl
def OOr(K:Kk):OracleF:=lookO (OCL K++ [(157,plainO (oI2 hullI))])
def t15f:List Bool:=[true,true,true,true,true,false,false,false,false,false,false,false,false,false,false]
theorem orRunA(K:Kk)(r s i o d:I)(b:Bool):valR ((run prog EG (OOr K) 80).1 324 [ivS r,ivS s,ivS i,ivS o,ivS d] [] (some (t15f++ [true,b])))=some (.tup (bif b then[ivS I.zero,.si .i64 (orE K orA r s i o d).2]else[ivS (gt (orE K orA r s i o d).1 0),.i .i64 0]),some [],(neB (orE K orA r s i o d).2,b)::(decide ((orQ K i o d).hi.k<=z64.k),true)::orOb r s i o d):=by cases b<;>kernel_rfl
theorem orRunB(K:Kk)(r s i o d:I)(b:Bool):valR ((run prog EG (OOr K) 80).1 324 [ivS r,ivS s,ivS i,ivS o,ivS d] [] (some (t15f++ [false,true,b])))=some (.tup (bif b then[ivS I.zero,.si .i64 (orE K orB r s i o d).2]else[ivS (gt (orE K orB r s i o d).1 0),.i .i64 0]),some [],(neB (orE K orB r s i o d).2,b)::(decide (z64.k<=(orQ K i o d).lo.k),true)::(decide ((orQ K i o d).hi.k<=z64.k),false)::orOb r s i o d):=by cases b<;>kernel_rfl
theorem orRunC(K:Kk)(r s i o d:I)(b:Bool):valR ((run prog EG (OOr K) 80).1 324 [ivS r,ivS s,ivS i,ivS o,ivS d] [] (some (t15f++ [false,false,b])))=some (.tup (bif b then[ivS I.zero,.si .i64 (orE K orC r s i o d).2]else[ivS (gt (orE K orC r s i o d).1 0),.i .i64 0]),some [],(neB (orE K orC r s i o d).2,b)::(decide (z64.k<=(orQ K i o d).lo.k),false)::(decide ((orQ K i o d).hi.k<=z64.k),false)::orOb r s i o d):=by cases b<;>kernel_rfl
end Go.Proofs.YtejcekikbnlllaaGreat
namespace Bu
open Rx Go
def dtP:List Op:=[.mul 5 2,.mul 5 2,.add 1 0,.mul 6 3,.add 1 0,.kept mone64 one64 0]
def dtK(K:Kk)(v u:V3):List I×Int:=evalK K dtP [u.z,u.y,u.x,v.z,v.y,v.x] 0
def pF(x:F):I:=⟨x,x⟩
structure Gm where
 gl:V3->V3->I->Gl4×Int
 dl:I->I->I×Int
 cd:I->I->I->I×Int
 lb:I->I×Int
 od:I->I->I->I->I->I×Int
def kI5(f:I->I->I->I->I->I×Int)(o:I->I->I->I->I->Obs):List SV->Dec->Option (SV×Dec×Obs)
 | [.agg [.fl a,.fl b],.agg [.fl c,.fl d],.agg [.fl e,.fl g],.agg [.fl h,.fl i],.agg [.fl j,.fl k]],ds=>some (.tup [.agg [.fl (f ⟨a,b⟩ ⟨c,d⟩ ⟨e,g⟩ ⟨h,i⟩ ⟨j,k⟩).1.lo,.fl (f ⟨a,b⟩ ⟨c,d⟩ ⟨e,g⟩ ⟨h,i⟩ ⟨j,k⟩).1.hi],.si .i64 (f ⟨a,b⟩ ⟨c,d⟩ ⟨e,g⟩ ⟨h,i⟩ ⟨j,k⟩).2],ds,o ⟨a,b⟩ ⟨c,d⟩ ⟨e,g⟩ ⟨h,i⟩ ⟨j,k⟩)
 |_,_=>none
def orO5(r s i o d:I):Obs:=bndO r z64 one64++(bndO s z64 one64++(bndO i z64 one64++(bndO o z64 one64++bndO d mone64 one64)))
def orR(K:Kk)(r s i o d:I):I×Int:=bif decide ((orQ K i o d).hi.k<=z64.k)then lnR (orE K orA r s i o d) 0 else bif decide (z64.k<=(orQ K i o d).lo.k)then lnR (orE K orB r s i o d) 0 else lnR (orE K orC r s i o d) 0
def glM(K:Kk)(g:Gl4×Int)(r:I×Int):I×Int:=bif neB g.2 then(I.zero,g.2)else bif neB r.2 then(I.zero,r.2)else bif neB (K.mul 0 g.1.v r.1).2 then(I.zero,(K.mul 0 g.1.v r.1).2)else((K.mul 0 g.1.v r.1).1,0)
def meL(G:Gm)(f:Nat->F)(c:Nat):I×Int:=G.lb (pF (f c))
def meO(K:Kk)(G:Gm)(f:Nat->F)(c:Nat)(v u:V3):I×Int:=bif neB (dtK K v u).2 then(I.zero,(dtK K v u).2)else G.od (pF (f c)) (pF (f 12)) v.z u.z (gt (dtK K v u).1 0)
def meP(K:Kk)(G:Gm)(f:Nat->F)(v u:V3):I×Int:=glM K (G.gl v u (pF (f 13))) (G.dl (G.gl v u (pF (f 13))).1.hf (pF (f 14)))
def meM(K:Kk)(G:Gm)(f:Nat->F)(c:Nat)(v u:V3):I×Int:=glM K (G.gl v u (pF (f 13))) (G.cd (G.gl v u (pF (f 13))).1.hf (pF (f (6+c))) (pF (f (9+c))))
end Bu
namespace Go.Proofs.YtejcekikbnlllaaGreat
open Go.RowKit Bu Rx
def leafI(k:Int)(f:Nat->F)(c:Int)(v u:V3):SV:= .agg [.i .u8 k,.fl (f 0),.fl (f 1),.fl (f 2),.fl (f 3),.fl (f 4),.fl (f 5),.fl (f 6),.fl (f 7),.fl (f 8),.fl (f 9),.fl (f 10),.fl (f 11),.fl (f 12),.fl (f 13),.fl (f 14),.fl (f 15),.i .i64 0,.i .i64 0,.i .i64 c,.fl v.x.lo,.fl v.x.hi,.fl v.y.lo,.fl v.y.hi,.fl v.z.lo,.fl v.z.hi,.fl u.x.lo,.fl u.x.hi,.fl u.y.lo,.fl u.y.hi,.fl u.z.lo,.fl u.z.hi]
def ndF(a0 a1 a2 a3 a4 a5 a6 a7 a8 a9 a10 a11 a12 a13 a14 a15:F)(i:Nat):F:=[a0,a1,a2,a3,a4,a5,a6,a7,a8,a9,a10,a11,a12,a13,a14,a15].getD i z64
def kRt(o:Int->(Nat->F)->Obs):List SV->Dec->Option (SV×Dec×Obs)
 | [.agg [.i .u8 k,.fl a0,.fl a1,.fl a2,.fl a3,.fl a4,.fl a5,.fl a6,.fl a7,.fl a8,.fl a9,.fl a10,.fl a11,.fl a12,.fl a13,.fl a14,.fl a15,.i .i64 0,.i .i64 0]],ds=>some (.b true,ds,o k (ndF a0 a1 a2 a3 a4 a5 a6 a7 a8 a9 a10 a11 a12 a13 a14 a15))
 |_,_=>none
theorem rtK:PlainOk prog 296 (kRt rtOb):=by
 intro args ds x ds' ob h ho;unfold kRt at h;split at h
 ·rename_i k a0 a1 a2 a3 a4 a5 a6 a7 a8 a9 a10 a11 a12 a13 a14 a15;simp only[sIz,pIz]at h;obtain⟨rfl,_,rfl⟩:=h;generalize hf:ndF a0 a1 a2 a3 a4 a5 a6 a7 a8 a9 a10 a11 a12 a13 a14 a15=f at ho;have e:(.agg [.i .u8 k,.fl a0,.fl a1,.fl a2,.fl a3,.fl a4,.fl a5,.fl a6,.fl a7,.fl a8,.fl a9,.fl a10,.fl a11,.fl a12,.fl a13,.fl a14,.fl a15,.i .i64 0,.i .i64 0]:SV)=nodeS k f:=by subst hf;rfl
  rw[e];refine⟨[.agg #[.int .u8 k,.float .f64 (f 0).b,.float .f64 (f 1).b,.float .f64 (f 2).b,.float .f64 (f 3).b,.float .f64 (f 4).b,.float .f64 (f 5).b,.float .f64 (f 6).b,.float .f64 (f 7).b,.float .f64 (f 8).b,.float .f64 (f 9).b,.float .f64 (f 10).b,.float .f64 (f 11).b,.float .f64 (f 12).b,.float .f64 (f 13).b,.float .f64 (f 14).b,.float .f64 (f 15).b,.int .i64 0,.int .i64 0]],_,rfl,rfl,fun w=> ?_⟩;unfold rtOb at ho;split at ho
  ·exact calls_of_val goodG oracleCL 80 (rtRun1 KkR f) ho rfl rfl w
  ·exact calls_of_val goodG oracleCL 80 (rtRun2 KkR f) ho rfl rfl w
  ·exact calls_of_val goodG oracleCL 80 (rtRun3 KkR f) ho rfl rfl w
  ·exact calls_of_val goodG oracleCL 80 (rtRun4 KkR f) ho rfl rfl w
  ·exact absurd (ob_h ho) (by simp)
 ·cases h
def OLo(o:Int->(Nat->F)->Obs)(r:I->Bool):OracleF:=lookO [(296,plainO (kRt o)),(67,plainO (kBI r))]
theorem oracleLo:OracleOk prog (OLo rtOb rt):= .cons rtK.of (.cons irtK.of (.nil _))
def t20:List Bool:=[true,true,true,true,true,true,true,true,true,true,true,true,true,true,true,true,true,true,true,true]
end Go.Proofs.YtejcekikbnlllaaGreat
namespace Bu
open Rx Go
structure Lf where
 k:Int
 f:Nat->F
 c:Int
 v:V3
 u:V3
end Bu
namespace Go.Proofs.YtejcekikbnlllaaGreat
open Go.RowKit Bu Rx
def etaF(f:Nat->F):Nat->F:=ndF (f 0) (f 1) (f 2) (f 3) (f 4) (f 5) (f 6) (f 7) (f 8) (f 9) (f 10) (f 11) (f 12) (f 13) (f 14) (f 15)
def lfOf:SV->Option Lf
 | .agg [.i .u8 k, .fl a0, .fl a1, .fl a2, .fl a3, .fl a4, .fl a5, .fl a6, .fl a7, .fl a8, .fl a9, .fl a10, .fl a11, .fl a12, .fl a13, .fl a14, .fl a15, .i .i64 0, .i .i64 0, ch, .fl p0, .fl p1, .fl p2, .fl p3, .fl p4, .fl p5, .fl r0, .fl r1, .fl r2, .fl r3, .fl r4, .fl r5] => match intS ch with
   |some (.i64,c)=>some ⟨k,ndF a0 a1 a2 a3 a4 a5 a6 a7 a8 a9 a10 a11 a12 a13 a14 a15,c,⟨⟨p0,p1⟩,⟨p2,p3⟩,⟨p4,p5⟩⟩,⟨⟨r0,r1⟩,⟨r2,r3⟩,⟨r4,r5⟩⟩⟩
   |_=>none
 |_=>none
theorem lfOf_S(k:Int)(f:Nat->F)(c:Int)(v u:V3):lfOf (leafS k f c v u)=some ⟨k,etaF f,c,v,u⟩:=rfl
def leafV(l:Lf):Value:= .agg #[.int .u8 l.k,.float .f64 (l.f 0).b,.float .f64 (l.f 1).b,.float .f64 (l.f 2).b,.float .f64 (l.f 3).b,.float .f64 (l.f 4).b,.float .f64 (l.f 5).b,.float .f64 (l.f 6).b,.float .f64 (l.f 7).b,.float .f64 (l.f 8).b,.float .f64 (l.f 9).b,.float .f64 (l.f 10).b,.float .f64 (l.f 11).b,.float .f64 (l.f 12).b,.float .f64 (l.f 13).b,.float .f64 (l.f 14).b,.float .f64 (l.f 15).b,.int .i64 0,.int .i64 0,.int .i64 l.c,.float .f64 l.v.x.lo.b,.float .f64 l.v.x.hi.b,.float .f64 l.v.y.lo.b,.float .f64 l.v.y.hi.b,.float .f64 l.v.z.lo.b,.float .f64 l.v.z.hi.b,.float .f64 l.u.x.lo.b,.float .f64 l.u.x.hi.b,.float .f64 l.u.y.lo.b,.float .f64 l.u.y.hi.b,.float .f64 l.u.z.lo.b,.float .f64 l.u.z.hi.b]
theorem lfOf_plain{x:SV}{l:Lf}(h:lfOf x=some l):plains [x]=some [leafV l]:=by
 unfold lfOf at h;split at h
 ·split at h
  ·rename_i c hc;simp only[sIz]at h;subst h;have hp:=intS_plain hc;simp only[plains,plain,hp,Option.bind_some,Option.map_some];rfl
  ·cases h
 ·cases h
theorem leaf_pl(l:Lf):plains [leafS l.k l.f l.c l.v l.u]=some [leafV l]/\plains [leafI l.k l.f l.c l.v l.u]=some [leafV l]:=⟨rfl,rfl⟩
def lfB(o:Lf->Obs)(x:SV):Obs:=match lfOf x with
 |some l=>o l
 |none=>[(false,true)]
def lfG(g:Lf->I×Int)(x:SV):I×Int:=match lfOf x with
 |some l=>g l
 |none=>(I.zero,0)
theorem lfB_in{o:Lf->Obs}{x:SV}(h:ObsOk (lfB o x)):∃l,lfOf x=some l/\ObsOk (o l):=by
 unfold lfB at h;split at h
 ·rename_i l e;exact⟨l,e,h⟩
 ·exact absurd (ob_h h) (by simp)
theorem kLk_of{m:FuncId}{o:Lf->Obs}(h:∀l,ObsOk (o l)->∀w,Calls prog m #[leafV l] w fun e w'=>e= .returned (.int .i64 0)/\Below w.heap.size w w'):PlainOk prog m (kLk (lfB o)):=by
 intro args ds x ds' ob hk ho;unfold kLk at hk;split at hk
 ·rename_i y;simp only[sIz,pIz]at hk;obtain⟨rfl,_,rfl⟩:=hk;obtain⟨l,e,ol⟩:=lfB_in ho;exact⟨_,_,lfOf_plain e,rfl,fun w=>h l ol w⟩
 ·cases hk
theorem kLf_of{m:FuncId}{g:Lf->I×Int}{o:Lf->Obs}(h:∀l,ObsOk (o l)->∀w,Calls prog m #[leafV l] w fun e w'=>e= .returned (.tuple #[.agg #[.float .f64 (g l).1.lo.b,.float .f64 (g l).1.hi.b],.int .i64 (g l).2])/\Below w.heap.size w w'):PlainOk prog m (kLf (lfG g) (lfB o)):=by
 intro args ds x ds' ob hk ho;unfold kLf at hk;split at hk
 ·rename_i y;simp only[sIz,pIz]at hk;obtain⟨rfl,_,rfl⟩:=hk;obtain⟨l,e,ol⟩:=lfB_in ho;refine⟨_,_,lfOf_plain e,rfl,fun w=> ?_⟩;have e2:lfG g y=g l:=by unfold lfG;rw[e]
  rw[e2];exact h l ol w
 ·cases hk
theorem lookRun(o:Int->(Nat->F)->Obs)(r:I->Bool)(k:Int)(f:Nat->F)(c:Int)(v u:V3):valR ((run prog EG (OLo o r) 80).1 232 [leafS k f c v u] [] (some t20))=some (.i .i64 0,some [],[(decide (u.z.hi.k<=one64.k),true),(decide (z64.k<=u.z.lo.k),true),(decide (u.y.hi.k<=one64.k),true),(decide (mone64.k<=u.y.lo.k),true),(decide (u.x.hi.k<=one64.k),true),(decide (mone64.k<=u.x.lo.k),true),(r u.z,true),(r u.y,true),(r u.x,true),(decide (v.z.hi.k<=one64.k),true),(decide (z64.k<=v.z.lo.k),true),(decide (v.y.hi.k<=one64.k),true),(decide (mone64.k<=v.y.lo.k),true),(decide (v.x.hi.k<=one64.k),true),(decide (mone64.k<=v.x.lo.k),true),(r v.z,true),(r v.y,true),(r v.x,true),(decide (c<3),true),(decide (0<=c),true)]++(o k (etaF f)++ [])):=by kernel_rfl
def lkOl(l:Lf):Obs:=dirO l.u++(dirO l.v++([(decide (l.c<3),true),(decide (0<=l.c),true)]++rtOb l.k (etaF l.f)))
theorem lookK:PlainOk prog 232 (kLk (lfB lkOl)):=kLk_of fun l ho w=>
 calls_of_val goodG oracleLo 80 (lookRun rtOb rt l.k l.f l.c l.v l.u) (ob_a (a:=dirO l.u++(dirO l.v++ [(decide (l.c<3),true),(decide (0<=l.c),true)])) (ob_a (ob_l ho) (ob_a (ob_l (ob_r ho)) (ob_l (ob_r (ob_r ho))))) (ob_a (ob_r (ob_r (ob_r ho))) ob_n)) (leaf_pl l).1 rfl w
def OMe(K:Kk)(G:Gm):OracleF:=lookO (OCL K++ [(234,plainO (kGl G.gl)),(66,plainO (kI2 G.dl fdO)),(328,plainO (kI3 G.cd fcO)),(297,plainO (kI1 G.lb u01O)),(324,plainO (kI5 G.od orO5))])
theorem meLRun(K:Kk)(G:Gm)(k:Int)(f:Nat->F)(v u:V3)(c:Nat)(hc:c<3):valR ((run prog EG (OMe K G) 80).1 292 [leafI k f c v u] [] (some []))=some (.tup [ivS (meL G f c).1,.si .i64 (meL G f c).2],some [],u01O (pF (f c))):=by rcases (by omega:c=0\/c=1\/c=2)with rfl|rfl|rfl<;>kernel_rfl
theorem meORun1(K:Kk)(G:Gm)(k:Int)(f:Nat->F)(v u:V3)(c:Nat)(hc:c<3):valR ((run prog EG (OMe K G) 80).1 293 [leafI k f c v u] [] (some [true]))=some (.tup [ivS I.zero,.si .i64 (dtK K v u).2],some [],[(neB (dtK K v u).2,true)]):=by rcases (by omega:c=0\/c=1\/c=2)with rfl|rfl|rfl<;>kernel_rfl
theorem meORun0(K:Kk)(G:Gm)(k:Int)(f:Nat->F)(v u:V3)(c:Nat)(hc:c<3):valR ((run prog EG (OMe K G) 80).1 293 [leafI k f c v u] [] (some [false]))=some (.tup [ivS (G.od (pF (f c)) (pF (f 12)) v.z u.z (gt (dtK K v u).1 0)).1,.si .i64 (G.od (pF (f c)) (pF (f 12)) v.z u.z (gt (dtK K v u).1 0)).2],some [],orO5 (pF (f c)) (pF (f 12)) v.z u.z (gt (dtK K v u).1 0)++ [(neB (dtK K v u).2,false)]):=by rcases (by omega:c=0\/c=1\/c=2)with rfl|rfl|rfl<;>kernel_rfl
def mpO(G:Gm)(f:Nat->F)(v u:V3)(b:Bool):Obs:=(neB (G.gl v u (pF (f 13))).2,b)::glO v u (pF (f 13))
def mpB(G:Gm)(f:Nat->F)(v u:V3)(b:Bool):Obs:=(neB (G.dl (G.gl v u (pF (f 13))).1.hf (pF (f 14))).2,b)::(fdO (G.gl v u (pF (f 13))).1.hf (pF (f 14))++mpO G f v u false)
theorem mePRunA(K:Kk)(G:Gm)(k:Int)(f:Nat->F)(c:Int)(v u:V3):valR ((run prog EG (OMe K G) 80).1 294 [leafI k f c v u] [] (some [true]))=some (.tup [ivS I.zero,.si .i64 (G.gl v u (pF (f 13))).2],some [],mpO G f v u true):=by kernel_rfl
theorem mePRunB(K:Kk)(G:Gm)(k:Int)(f:Nat->F)(c:Int)(v u:V3):valR ((run prog EG (OMe K G) 80).1 294 [leafI k f c v u] [] (some [false,true]))=some (.tup [ivS I.zero,.si .i64 (G.dl (G.gl v u (pF (f 13))).1.hf (pF (f 14))).2],some [],mpB G f v u true):=by kernel_rfl
def meX(K:Kk)(G:Gm)(f:Nat->F)(v u:V3):I×Int:=K.mul 0 (G.gl v u (pF (f 13))).1.v (G.dl (G.gl v u (pF (f 13))).1.hf (pF (f 14))).1
theorem mePRunC(K:Kk)(G:Gm)(k:Int)(f:Nat->F)(c:Int)(v u:V3)(b:Bool):valR ((run prog EG (OMe K G) 80).1 294 [leafI k f c v u] [] (some [false,false,b]))=some (.tup (bif b then[ivS I.zero,.si .i64 (meX K G f v u).2]else[ivS (meX K G f v u).1,.i .i64 0]),some [],(neB (meX K G f v u).2,b)::mpB G f v u false):=by cases b<;>kernel_rfl
def mmB(G:Gm)(f:Nat->F)(c:Nat)(v u:V3)(b:Bool):Obs:=(neB (G.cd (G.gl v u (pF (f 13))).1.hf (pF (f (6+c))) (pF (f (9+c)))).2,b)::(fcO (G.gl v u (pF (f 13))).1.hf (pF (f (6+c))) (pF (f (9+c)))++mpO G f v u false)
def meY(K:Kk)(G:Gm)(f:Nat->F)(c:Nat)(v u:V3):I×Int:=K.mul 0 (G.gl v u (pF (f 13))).1.v (G.cd (G.gl v u (pF (f 13))).1.hf (pF (f (6+c))) (pF (f (9+c)))).1
theorem meMRunA(K:Kk)(G:Gm)(k:Int)(f:Nat->F)(c:Int)(v u:V3):valR ((run prog EG (OMe K G) 80).1 295 [leafI k f c v u] [] (some [true]))=some (.tup [ivS I.zero,.si .i64 (G.gl v u (pF (f 13))).2],some [],mpO G f v u true):=by kernel_rfl
theorem meMRunB(K:Kk)(G:Gm)(k:Int)(f:Nat->F)(v u:V3)(c:Nat)(hc:c<3):valR ((run prog EG (OMe K G) 80).1 295 [leafI k f c v u] [] (some [false,true]))=some (.tup [ivS I.zero,.si .i64 (G.cd (G.gl v u (pF (f 13))).1.hf (pF (f (6+c))) (pF (f (9+c)))).2],some [],mmB G f c v u true):=by rcases (by omega:c=0\/c=1\/c=2)with rfl|rfl|rfl<;>kernel_rfl
theorem meMRunC(K:Kk)(G:Gm)(k:Int)(f:Nat->F)(v u:V3)(c:Nat)(hc:c<3)(b:Bool):valR ((run prog EG (OMe K G) 80).1 295 [leafI k f c v u] [] (some [false,false,b]))=some (.tup (bif b then[ivS I.zero,.si .i64 (meY K G f c v u).2]else[ivS (meY K G f c v u).1,.i .i64 0]),some [],(neB (meY K G f c v u).2,b)::mmB G f c v u false):=by rcases (by omega:c=0\/c=1\/c=2)with rfl|rfl|rfl<;>cases b<;>kernel_rfl
end Go.Proofs.YtejcekikbnlllaaGreat
namespace Bu
open Rx Go
theorem dt_in{v u:V3}(h:(dtK KkR v u).2=0):ObsOk (bndO (gt (dtK KkR v u).1 0) mone64 one64):=by
 obtain⟨_,k⟩:=eval_chain h;unfold dtK at*;generalize (evalK KkR dtP [u.z,u.y,u.x,v.z,v.y,v.x] 0).1=r at*;obtain⟨p1,hp1,p2,hp2,s1,hs1,p3,hp3,s2,hs2,dot,hdot,hend⟩:=k;subst hend;have zk:mone64.k<=one64.k:=by decide+kernel
 have r2:rt s2=true:=dn_up hs2.1 hs2.2 (by have a:rt s1=true:=dn_up hs1.1 hs1.2 (by have b:rt p1=true:=AllR.rt hp1;have c:rt p2=true:=AllR.rt hp2;have:=rt_le b;have:=rt_le c;show p1.lo.q+p2.lo.q<=p1.hi.q+p2.hi.q;grind);have d:rt p3=true:=AllR.rt hp3;have:=rt_le a;have:=rt_le d;show s1.lo.q+p3.lo.q<=s1.hi.q+p3.hi.q;grind);have hd:dot=keptI s2 mone64 one64:=hdot;show ObsOk (bndO dot mone64 one64);rw[hd];obtain⟨e1,e2⟩:=keptI_k s2 mone64 one64;exact ob_c (dT (by rw[e2];omega)) (ob_c (dT (by rw[e1];omega)) (ob_c (keptI_rt r2) ob_n))
end Bu
namespace Go.Proofs.YtejcekikbnlllaaGreat
open Go.RowKit Bu Rx
def GmR:Gm:=⟨glR KkR GlR,fun c n=>lnR (fdK KkR c n) 0,fun c m n=>lnR (fcK KkR c m n) 0,fun r=>lnR (lbK KkR r) 0,orR KkR⟩
theorem gl_half{v u:V3}{al:I}(h:neB (glR KkR GlR v u al).2=false):ObsOk (u01O (glR KkR GlR v u al).1.hf):=by
 unfold glR at h ⊢;cases c:neB (glErr KkR GlR v u al)
 ·rw[cF];have e:(GlR.H v u).2=0:=by
   unfold glErr at c;cases c2:neB (GlR.H v u).2
   ·exact neB_0 c2
   ·rw[c2,cT,c2]at c;cases c
  have k:=(hl_in (v:=v) (u:=u) e).2;show ObsOk (u01O (lnR (GlR.H v u) 3).1);unfold lnR;rw[show neB (GlR.H v u).2=false by rw[e];rfl];exact k
 ·rw[c,cT,c]at h;cases h
theorem oracleOOr:OracleOk prog (OOr KkR):=
 .cons addC <| .cons subC <| .cons mulC <| .cons divC <| .cons cmax_I <| .cons sqrC <| .cons csqrt_I <|
 .cons negC <|
 .cons numC <| .cons irtK.of <| .cons rightG.of <| .cons absG.of <| .cons vwG.of <| .cons piG.of <| .cons hullG.of <| .nil _
theorem orO_ok{r s i o d:I}(h:ObsOk (orO5 r s i o d)):ObsOk (orOb r s i o d):=by have a:=ob_l h;have b:=ob_l (ob_r h);have c:=ob_l (ob_r (ob_r h));have e:=ob_l (ob_r (ob_r (ob_r h)));have g:=ob_r (ob_r (ob_r (ob_r h)));have two:∀{x:I}{l:F}{p:Obs},ObsOk (bndO x l one64)->ObsOk p->ObsOk ((decide (one64.k<x.hi.k),false)::(decide (x.lo.k<l.k),false)::p):=fun h k=>ob_c (not_lt (ob_h h)) (ob_c (not_lt (ob_h (ob_t h))) k);have rr:∀{x:I}{l:F},ObsOk (bndO x l one64)->rt x=true:=fun h=>ob_h (ob_t (ob_t h));exact two g (two e (two c (two b (two a (ob_c (rr g) (ob_c (rr e) (ob_c (rr c) (ob_c (rr b) (ob_c (rr a) ob_n)))))))))
theorem orG_of(K:Kk)(hO:OracleOk prog (OOr K)):PlainOk prog 324 (kI5 (orR K) orO5):=by
 intro args ds x ds' ob h hob;unfold kI5 at h;split at h
 ·rename_i a b c d e g hh i j k;simp only[sIz,pIz]at h;obtain⟨rfl,_,rfl⟩:=h;refine⟨[.agg #[.float .f64 a.b,.float .f64 b.b],.agg #[.float .f64 c.b,.float .f64 d.b],.agg #[.float .f64 e.b,.float .f64 g.b],.agg #[.float .f64 hh.b,.float .f64 i.b],.agg #[.float .f64 j.b,.float .f64 k.b]],_,rfl,rfl,fun w=> ?_⟩;have o:=orO_ok hob;have rA:=orRunA K ⟨a,b⟩ ⟨c,d⟩ ⟨e,g⟩ ⟨hh,i⟩ ⟨j,k⟩ (neB (orE K orA ⟨a,b⟩ ⟨c,d⟩ ⟨e,g⟩ ⟨hh,i⟩ ⟨j,k⟩).2);have rB:=orRunB K ⟨a,b⟩ ⟨c,d⟩ ⟨e,g⟩ ⟨hh,i⟩ ⟨j,k⟩ (neB (orE K orB ⟨a,b⟩ ⟨c,d⟩ ⟨e,g⟩ ⟨hh,i⟩ ⟨j,k⟩).2);have rC:=orRunC K ⟨a,b⟩ ⟨c,d⟩ ⟨e,g⟩ ⟨hh,i⟩ ⟨j,k⟩ (neB (orE K orC ⟨a,b⟩ ⟨c,d⟩ ⟨e,g⟩ ⟨hh,i⟩ ⟨j,k⟩).2);unfold orR;generalize orE K orA ⟨a,b⟩ ⟨c,d⟩ ⟨e,g⟩ ⟨hh,i⟩ ⟨j,k⟩=A at*;generalize orE K orB ⟨a,b⟩ ⟨c,d⟩ ⟨e,g⟩ ⟨hh,i⟩ ⟨j,k⟩=B at*;generalize orE K orC ⟨a,b⟩ ⟨c,d⟩ ⟨e,g⟩ ⟨hh,i⟩ ⟨j,k⟩=C at*;unfold lnR;cases q1:decide ((orQ K ⟨e,g⟩ ⟨hh,i⟩ ⟨j,k⟩).hi.k<=z64.k)
  ·cases q2:decide (z64.k<=(orQ K ⟨e,g⟩ ⟨hh,i⟩ ⟨j,k⟩).lo.k)
   ·cases q:neB C.2<;>rw[q]at rC<;>exact calls_of_val goodG hO 80 rC (ob_c rfl (ob_c q2 (ob_c q1 o))) rfl rfl w
   ·cases q:neB B.2<;>rw[q]at rB<;>exact calls_of_val goodG hO 80 rB (ob_c rfl (ob_c q2 (ob_c q1 o))) rfl rfl w
  ·cases q:neB A.2<;>rw[q]at rA<;>exact calls_of_val goodG hO 80 rA (ob_c rfl (ob_c q1 o)) rfl rfl w
 ·cases h
theorem orG:PlainOk prog 324 (kI5 (orR KkR) orO5):=orG_of KkR oracleOOr
theorem oracleMe:OracleOk prog (OMe KkR GmR):=
 .cons addC <| .cons subC <| .cons mulC <| .cons divC <| .cons cmax_I <| .cons sqrC <| .cons csqrt_I <|
 .cons negC <|
 .cons numC <| .cons irtK.of <| .cons rightG.of <| .cons absG.of <| .cons vwG.of <| .cons piG.of <| .cons glG.of <| .cons fdG.of <| .cons fcG.of <| .cons lbG.of <| .cons orG.of <| .nil _
def chO(l:Lf):Obs:=[(decide (l.c<3),true),(decide (0<=l.c),true)]
def olL(l:Lf):Obs:=chO l++u01O (pF (l.f l.c.toNat))
def olO(l:Lf):Obs:=chO l++(bndO (pF (l.f l.c.toNat)) z64 one64++(bndO (pF (l.f 12)) z64 one64++(dirO l.v++dirO l.u)))
def olP(l:Lf):Obs:=glO l.v l.u (pF (l.f 13))++bndO (pF (l.f 14)) minIo four64
def olM(l:Lf):Obs:=chO l++(glO l.v l.u (pF (l.f 13))++(bndO (pF (l.f (6+l.c.toNat))) minMt maxMt++bndO (pF (l.f (9+l.c.toNat))) minMt maxMt))
theorem ch_in{l:Lf}(h:ObsOk (chO l)):∃c:Nat,c<3/\l.c=(c:Int):=by have a:=oTz (ob_h h);have b:=oTz (ob_h (ob_t h));obtain⟨c,e⟩:=Int.eq_ofNat_of_zero_le b;exact⟨c,by omega,e⟩
theorem plIt(a:I)(k:Int):plain (.tup [ivS a,.si .i64 k])=some (.tuple #[.agg #[.float .f64 a.lo.b,.float .f64 a.hi.b],.int .i64 k])/\plain (.tup [ivS a,.i .i64 k])=some (.tuple #[.agg #[.float .f64 a.lo.b,.float .f64 a.hi.b],.int .i64 k]):=⟨rfl,rfl⟩
theorem lambK_of(K:Kk)(G:Gm)(hO:OracleOk prog (OMe K G)):PlainOk prog 292 (kLf (lfG fun l=>meL G l.f l.c.toNat) (lfB olL)):=kLf_of fun l ho w=>by obtain⟨k,f,c,v,u⟩:=l;obtain⟨n,hn,e⟩:=ch_in (ob_l ho);simp only at e;subst e;exact calls_of_val goodG hO 80 (meLRun K G k f v u n hn) (ob_r ho) (leaf_pl ⟨k,f,n,v,u⟩).2 (plIt _ _).1 w
theorem lambK:PlainOk prog 292 (kLf (lfG fun l=>meL GmR l.f l.c.toNat) (lfB olL)):=lambK_of KkR GmR oracleMe
theorem orenK_of(K:Kk)(G:Gm)(hO:OracleOk prog (OMe K G))(hD:∀v u,(dtK K v u).2=0->ObsOk (bndO (gt (dtK K v u).1 0) mone64 one64)):PlainOk prog 293 (kLf (lfG fun l=>meO K G l.f l.c.toNat l.v l.u) (lfB olO)):=kLf_of fun l ho w=>by
 obtain⟨k,f,c,v,u⟩:=l;obtain⟨n,hn,e⟩:=ch_in (ob_l ho);simp only at e;subst e;have r0:=meORun0 K G k f v u n hn;have r1:=meORun1 K G k f v u n hn;show Calls _ _ _ _ fun e w'=>e= .returned (.tuple #[.agg #[.float .f64 (meO K G f n v u).1.lo.b,.float .f64 (meO K G f n v u).1.hi.b],.int .i64 (meO K G f n v u).2])/\_;unfold meO;cases q:neB (dtK K v u).2
 ·have hd:=hD v u (neB_0 q);have o:ObsOk (orO5 (pF (f n)) (pF (f 12)) v.z u.z (gt (dtK K v u).1 0)++ [(neB (dtK K v u).2,false)]):=
   ob_a (ob_a (ob_l (ob_r ho)) (ob_a (ob_l (ob_r (ob_r ho))) (ob_a (dir_z (ob_l (ob_r (ob_r (ob_r ho))))) (ob_a (dir_z (ob_r (ob_r (ob_r (ob_r ho))))) hd)))) (ob_c q ob_n)
  exact calls_of_val goodG hO 80 r0 o (leaf_pl ⟨k,f,n,v,u⟩).2 (plIt _ _).1 w
 ·exact calls_of_val goodG hO 80 r1 (ob_c q ob_n) (leaf_pl ⟨k,f,n,v,u⟩).2 (plIt _ _).1 w
theorem orenK:PlainOk prog 293 (kLf (lfG fun l=>meO KkR GmR l.f l.c.toNat l.v l.u) (lfB olO)):=orenK_of KkR GmR oracleMe (fun v u h=>dt_in h)
theorem plasK_of(K:Kk)(G:Gm)(hO:OracleOk prog (OMe K G))(hG:∀v u al,neB (G.gl v u al).2=false->ObsOk (u01O (G.gl v u al).1.hf)):PlainOk prog 294 (kLf (lfG fun l=>meP K G l.f l.v l.u) (lfB olP)):=kLf_of fun l ho w=>by
 obtain⟨k,f,c,v,u⟩:=l;have rA:=mePRunA K G k f c v u;have rB:=mePRunB K G k f c v u;have rC:=mePRunC K G k f c v u (neB (meX K G f v u).2);show Calls _ _ _ _ fun e w'=>e= .returned (.tuple #[.agg #[.float .f64 (meP K G f v u).1.lo.b,.float .f64 (meP K G f v u).1.hi.b],.int .i64 (meP K G f v u).2])/\_;have og:ObsOk (glO v u (pF (f 13))):=ob_l ho;unfold meP glM;cases q1:neB (G.gl v u (pF (f 13))).2
 ·have hh:ObsOk (u01O (G.gl v u (pF (f 13))).1.hf):=hG _ _ _ q1;have oB:∀t,neB (G.dl (G.gl v u (pF (f 13))).1.hf (pF (f 14))).2=t->ObsOk (mpB G f v u t):=fun t ht=>ob_c ht (ob_a (ob_a (ob_r ho) hh) (ob_c q1 og));cases q2:neB (G.dl (G.gl v u (pF (f 13))).1.hf (pF (f 14))).2
  ·have e:K.mul 0 (G.gl v u (pF (f 13))).1.v (G.dl (G.gl v u (pF (f 13))).1.hf (pF (f 14))).1=meX K G f v u:=rfl;simp only[cF];rw[e];generalize meX K G f v u=X at*;cases q3:neB X.2<;>rw[q3]at rC
   ·exact calls_of_val goodG hO 80 rC (ob_c rfl (oB _ q2)) (leaf_pl ⟨k,f,c,v,u⟩).2 (plIt _ _).2 w
   ·exact calls_of_val goodG hO 80 rC (ob_c rfl (oB _ q2)) (leaf_pl ⟨k,f,c,v,u⟩).2 (plIt _ _).1 w
  ·exact calls_of_val goodG hO 80 rB (oB _ q2) (leaf_pl ⟨k,f,c,v,u⟩).2 (plIt _ _).1 w
 ·exact calls_of_val goodG hO 80 rA (ob_c q1 og) (leaf_pl ⟨k,f,c,v,u⟩).2 (plIt _ _).1 w
theorem plasK:PlainOk prog 294 (kLf (lfG fun l=>meP KkR GmR l.f l.v l.u) (lfB olP)):=plasK_of KkR GmR oracleMe (fun v u al h=>gl_half h)
theorem metaK_of(K:Kk)(G:Gm)(hO:OracleOk prog (OMe K G))(hG:∀v u al,neB (G.gl v u al).2=false->ObsOk (u01O (G.gl v u al).1.hf)):PlainOk prog 295 (kLf (lfG fun l=>meM K G l.f l.c.toNat l.v l.u) (lfB olM)):=kLf_of fun l ho w=>by
 obtain⟨k,f,c,v,u⟩:=l;obtain⟨n,hn,e⟩:=ch_in (ob_l ho);simp only at e;subst e;have rA:=meMRunA K G k f n v u;have rB:=meMRunB K G k f v u n hn;have rC:=meMRunC K G k f v u n hn (neB (meY K G f n v u).2);show Calls _ _ _ _ fun e w'=>e= .returned (.tuple #[.agg #[.float .f64 (meM K G f n v u).1.lo.b,.float .f64 (meM K G f n v u).1.hi.b],.int .i64 (meM K G f n v u).2])/\_;have og:ObsOk (glO v u (pF (f 13))):=ob_l (ob_r ho);unfold meM glM;cases q1:neB (G.gl v u (pF (f 13))).2
 ·have hh:ObsOk (u01O (G.gl v u (pF (f 13))).1.hf):=hG _ _ _ q1;have oB:∀t,neB (G.cd (G.gl v u (pF (f 13))).1.hf (pF (f (6+n))) (pF (f (9+n)))).2=t->ObsOk (mmB G f n v u t):=fun t ht=>ob_c ht (ob_a (ob_a (ob_r (ob_r (ob_r ho))) (ob_a (ob_l (ob_r (ob_r ho))) hh)) (ob_c q1 og));cases q2:neB (G.cd (G.gl v u (pF (f 13))).1.hf (pF (f (6+n))) (pF (f (9+n)))).2
  ·have e:K.mul 0 (G.gl v u (pF (f 13))).1.v (G.cd (G.gl v u (pF (f 13))).1.hf (pF (f (6+n))) (pF (f (9+n)))).1=meY K G f n v u:=rfl;simp only[cF];rw[e];generalize meY K G f n v u=X at*;cases q3:neB X.2<;>rw[q3]at rC
   ·exact calls_of_val goodG hO 80 rC (ob_c rfl (oB _ q2)) (leaf_pl ⟨k,f,n,v,u⟩).2 (plIt _ _).2 w
   ·exact calls_of_val goodG hO 80 rC (ob_c rfl (oB _ q2)) (leaf_pl ⟨k,f,n,v,u⟩).2 (plIt _ _).1 w
  ·exact calls_of_val goodG hO 80 rB (oB _ q2) (leaf_pl ⟨k,f,n,v,u⟩).2 (plIt _ _).1 w
 ·exact calls_of_val goodG hO 80 rA (ob_c q1 og) (leaf_pl ⟨k,f,n,v,u⟩).2 (plIt _ _).1 w
theorem metaK:PlainOk prog 295 (kLf (lfG fun l=>meM KkR GmR l.f l.c.toNat l.v l.u) (lfB olM)):=metaK_of KkR GmR oracleMe (fun v u al h=>gl_half h)
section
variable (L:Lfs) (k:Int) (f:Nat->F) (c:Int) (v u:V3) (r:Nat)
theorem va7_1:(runOps prog EG (run prog EG (OVl L 292) 60).1 (opsOf vR6) ((opsOf vR6).toList.drop 4) (vsL L 292 k f c v u r)).isSome=true:=by kernel_rfl
theorem va8_1:exO prog EG (OVl L 292) 60 vT (vs7 L 292 k f c v u r) .ret:=by unfold exO;kernel_rfl
theorem vb7_1:(vs7 L 292 k f c v u r).ob=L.o (leafS k f c v u)++(L.lk (leafS k f c v u)++ []):=by kernel_rfl
theorem vb8_1:(vs8 L 292 k f c v u r).ob=L.o (leafS k f c v u)++(L.lk (leafS k f c v u)++ []):=by kernel_rfl
theorem vrs_1:resultS prog Tryz.f231 (vs8 L 292 k f c v u r)=some (.tup [ivS (L.g (leafS k f c v u)).1,.si .i64 (L.g (leafS k f c v u)).2]):=by kernel_rfl
theorem va7_2:(runOps prog EG (run prog EG (OVl L 293) 60).1 (opsOf vR6) ((opsOf vR6).toList.drop 4) (vsL L 293 k f c v u r)).isSome=true:=by kernel_rfl
theorem va8_2:exO prog EG (OVl L 293) 60 vT (vs7 L 293 k f c v u r) .ret:=by unfold exO;kernel_rfl
theorem vb7_2:(vs7 L 293 k f c v u r).ob=L.o (leafS k f c v u)++(L.lk (leafS k f c v u)++ []):=by kernel_rfl
theorem vb8_2:(vs8 L 293 k f c v u r).ob=L.o (leafS k f c v u)++(L.lk (leafS k f c v u)++ []):=by kernel_rfl
theorem vrs_2:resultS prog Tryz.f231 (vs8 L 293 k f c v u r)=some (.tup [ivS (L.g (leafS k f c v u)).1,.si .i64 (L.g (leafS k f c v u)).2]):=by kernel_rfl
theorem va7_3:(runOps prog EG (run prog EG (OVl L 294) 60).1 (opsOf vR6) ((opsOf vR6).toList.drop 4) (vsL L 294 k f c v u r)).isSome=true:=by kernel_rfl
theorem va8_3:exO prog EG (OVl L 294) 60 vT (vs7 L 294 k f c v u r) .ret:=by unfold exO;kernel_rfl
theorem vb7_3:(vs7 L 294 k f c v u r).ob=L.o (leafS k f c v u)++(L.lk (leafS k f c v u)++ []):=by kernel_rfl
theorem vb8_3:(vs8 L 294 k f c v u r).ob=L.o (leafS k f c v u)++(L.lk (leafS k f c v u)++ []):=by kernel_rfl
theorem vrs_3:resultS prog Tryz.f231 (vs8 L 294 k f c v u r)=some (.tup [ivS (L.g (leafS k f c v u)).1,.si .i64 (L.g (leafS k f c v u)).2]):=by kernel_rfl
theorem va7_4:(runOps prog EG (run prog EG (OVl L 295) 60).1 (opsOf vR6) ((opsOf vR6).toList.drop 4) (vsL L 295 k f c v u r)).isSome=true:=by kernel_rfl
theorem va8_4:exO prog EG (OVl L 295) 60 vT (vs7 L 295 k f c v u r) .ret:=by unfold exO;kernel_rfl
theorem vb7_4:(vs7 L 295 k f c v u r).ob=L.o (leafS k f c v u)++(L.lk (leafS k f c v u)++ []):=by kernel_rfl
theorem vb8_4:(vs8 L 295 k f c v u r).ob=L.o (leafS k f c v u)++(L.lk (leafS k f c v u)++ []):=by kernel_rfl
theorem vrs_4:resultS prog Tryz.f231 (vs8 L 295 k f c v u r)=some (.tup [ivS (L.g (leafS k f c v u)).1,.si .i64 (L.g (leafS k f c v u)).2]):=by kernel_rfl
end
theorem vl_of{L:Lfs}{m:FuncId}{k:Int}{g:Lf->I×Int}{o:Lf->Obs}(hL:L=⟨lfB lkOl,lfG g,lfB o⟩)(hm:PlainOk prog m (kLf (lfG g) (lfB o))):OracleOk prog (OVl L m):=by subst hL;exact .cons lookK.of (.cons hm.of (.nil _))
def vaOf:List SV->Option Lf
 | [.agg [.i .u8 k, .fl a0, .fl a1, .fl a2, .fl a3, .fl a4, .fl a5, .fl a6, .fl a7, .fl a8, .fl a9, .fl a10, .fl a11, .fl a12, .fl a13, .fl a14, .fl a15, .i .i64 0, .i .i64 0], ch, .agg [.fl p0, .fl p1, .fl p2, .fl p3, .fl p4, .fl p5], .agg [.fl r0, .fl r1, .fl r2, .fl r3, .fl r4, .fl r5]] => match intS ch with
   |some (.i64,c)=>some ⟨k,ndF a0 a1 a2 a3 a4 a5 a6 a7 a8 a9 a10 a11 a12 a13 a14 a15,c,⟨⟨p0,p1⟩,⟨p2,p3⟩,⟨p4,p5⟩⟩,⟨⟨r0,r1⟩,⟨r2,r3⟩,⟨r4,r5⟩⟩⟩
   |_=>none
 |_=>none
theorem vaOf_plain{l:List SV}{x:Lf}(h:vaOf l=some x):etaF x.f=x.f/\∃vs,plains l=some vs/\plains (vArgs x.k x.f x.c x.v x.u)=some vs:=by
 unfold vaOf at h;split at h
 ·split at h
  ·rename_i c hc;simp only[sIz]at h;subst h;have hp:=intS_plain hc;refine⟨rfl,_,?_,rfl⟩;simp only[plains,plain,hp,Option.bind_some,Option.map_some];rfl
  ·cases h
 ·cases h
def vlG(G:Gm)(K:Kk)(l:Lf):I×Int:=match l.k with
 |1=>meL G l.f l.c.toNat
 |2=>meO K G l.f l.c.toNat l.v l.u
 |3=>meP K G l.f l.v l.u
 |4=>meM K G l.f l.c.toNat l.v l.u
 |_=>(I.zero,0)
def vlO(l:Lf):Obs:=lkOl l++match l.k with
 |1=>olL l
 |2=>olO l
 |3=>olP l
 |4=>olM l
 |_=>[(false,true)]
def kVal(g:Lf->I×Int)(o:Lf->Obs)(args:List SV)(ds:Dec):Option (SV×Dec×Obs):=match vaOf args with
 |some l=>some (.tup [.agg [.fl (g l).1.lo,.fl (g l).1.hi],.si .i64 (g l).2],ds,o l)
 |none=>none
theorem valK:PlainOk prog 231 (kVal (vlG GmR KkR) vlO):=by
 intro args ds x ds' ob h ho;unfold kVal at h;split at h
 ·rename_i l e;simp only[sIz,pIz]at h;obtain⟨rfl,_,rfl⟩:=h;obtain⟨hf,vs,h1,h2⟩:=vaOf_plain e;obtain⟨k,f,c,v,u⟩:=l;simp only at hf h2;refine⟨vs,_,h1,rfl,fun w=> ?_⟩;have hlk:ObsOk (lfB lkOl (leafS k f c v u)):=by unfold lfB;rw[lfOf_S,hf];exact ob_l ho
  have go:∀{m:FuncId}{g:Lf->I×Int}{o:Lf->Obs}(hm:PlainOk prog m (kLf (lfG g) (lfB o)))(hwf:(Lit.int .u8 k).wf=true)
    (hat:(tabD 292 293 294 295).atKey (.int .u8 k) (.lit (.bool false))= .lit (.int .i64 (m:Int)))
    (a7:∀(L:Lfs)r,(runOps prog EG (run prog EG (OVl L m) 60).1 (opsOf vR6) ((opsOf vR6).toList.drop 4) (vsL L m k f c v u r)).isSome=true)
    (a8:∀(L:Lfs)r,exO prog EG (OVl L m) 60 vT (vs7 L m k f c v u r) .ret)
    (b7:∀(L:Lfs)r,(vs7 L m k f c v u r).ob=L.o (leafS k f c v u)++(L.lk (leafS k f c v u)++ []))
    (b8:∀(L:Lfs)r,(vs8 L m k f c v u r).ob=L.o (leafS k f c v u)++(L.lk (leafS k f c v u)++ []))
    (rs:∀(L:Lfs)r,resultS prog Tryz.f231 (vs8 L m k f c v u r)=some (.tup [ivS (L.g (leafS k f c v u)).1,.si .i64 (L.g (leafS k f c v u)).2]))
    (hob:ObsOk (o ⟨k,f,c,v,u⟩)) (he:vlG GmR KkR ⟨k,f,c,v,u⟩=g ⟨k,f,c,v,u⟩),
    Calls prog 231 vs.toArray w fun e w'=>e= .returned (.tuple #[.agg #[.float .f64 (vlG GmR KkR ⟨k,f,c,v,u⟩).1.lo.b,.float .f64 (vlG GmR KkR ⟨k,f,c,v,u⟩).1.hi.b],.int .i64 (vlG GmR KkR ⟨k,f,c,v,u⟩).2])/\Below w.heap.size w w':=by
   intro m g o hm hwf hat a7 a8 b7 b8 rs hob he;have q:=value_of (L:=⟨lfB lkOl,lfG g,lfB o⟩) (g:=m) (k:=k) f c v u (vl_of (k:=k) rfl hm) hwf hat (a7 _) (a8 _) (b7 _) (b8 _) (rs _) hlk (by show ObsOk (lfB o (leafS k f c v u));unfold lfB;rw[lfOf_S,hf];exact hob) h2 w;have eg:lfG g (leafS k f c v u)=g ⟨k,f,c,v,u⟩:=by unfold lfG;rw[lfOf_S,hf]
   rw[he,<-eg];exact q
  have ho2:=ob_r ho;split at ho2
  ·rename_i q;simp only at q;subst q;exact go lambK rfl (tab_at _ _ _ _).1 (fun L r=>va7_1 L 1 f c v u r) (fun L r=>va8_1 L 1 f c v u r) (fun L r=>vb7_1 L 1 f c v u r) (fun L r=>vb8_1 L 1 f c v u r) (fun L r=>vrs_1 L 1 f c v u r) ho2 rfl
  ·rename_i q;simp only at q;subst q;exact go orenK rfl (tab_at _ _ _ _).2.1 (fun L r=>va7_2 L 2 f c v u r) (fun L r=>va8_2 L 2 f c v u r) (fun L r=>vb7_2 L 2 f c v u r) (fun L r=>vb8_2 L 2 f c v u r) (fun L r=>vrs_2 L 2 f c v u r) ho2 rfl
  ·rename_i q;simp only at q;subst q;exact go plasK rfl (tab_at _ _ _ _).2.2.1 (fun L r=>va7_3 L 3 f c v u r) (fun L r=>va8_3 L 3 f c v u r) (fun L r=>vb7_3 L 3 f c v u r) (fun L r=>vb8_3 L 3 f c v u r) (fun L r=>vrs_3 L 3 f c v u r) ho2 rfl
  ·rename_i q;simp only at q;subst q;exact go metaK rfl (tab_at _ _ _ _).2.2.2 (fun L r=>va7_4 L 4 f c v u r) (fun L r=>va8_4 L 4 f c v u r) (fun L r=>vb7_4 L 4 f c v u r) (fun L r=>vb8_4 L 4 f c v u r) (fun L r=>vrs_4 L 4 f c v u r) ho2 rfl
  ·exact absurd (ob_h ho2) (by simp)
 ·cases h
noncomputable def ODy(lk:SV->Obs)(G:Gm):OracleF:=lookO [(232,plainO (kLk lk)),(297,plainO (kI1 G.lb u01O)),(234,plainO (kGl G.gl))]
theorem deRun1(lk:SV->Obs)(G:Gm)(f:Nat->F)(v u:V3):valR ((run prog EG (ODy lk G) 80).1 153 [nodeS 1 f,v.sv,u.sv] [] (some []))=some (.tup [ivS (G.lb v.z).1,.si .i64 (G.lb v.z).2],some [],u01O v.z++(lk (leafI 1 f 0 v u)++ [])):=by kernel_rfl
theorem deRun2(lk:SV->Obs)(G:Gm)(f:Nat->F)(v u:V3):valR ((run prog EG (ODy lk G) 80).1 153 [nodeS 2 f,v.sv,u.sv] [] (some []))=some (.tup [ivS (G.lb v.z).1,.si .i64 (G.lb v.z).2],some [],u01O v.z++(lk (leafI 2 f 0 v u)++ [])):=by kernel_rfl
theorem deRun3(lk:SV->Obs)(G:Gm)(f:Nat->F)(v u:V3):valR ((run prog EG (ODy lk G) 80).1 153 [nodeS 3 f,v.sv,u.sv] [] (some []))=some (.tup [ivS (G.gl v u (pF (f 13))).1.d,.si .i64 (G.gl v u (pF (f 13))).2],some [],glO v u (pF (f 13))++(lk (leafI 3 f 0 v u)++ [])):=by kernel_rfl
theorem deRun4(lk:SV->Obs)(G:Gm)(f:Nat->F)(v u:V3):valR ((run prog EG (ODy lk G) 80).1 153 [nodeS 4 f,v.sv,u.sv] [] (some []))=some (.tup [ivS (G.gl v u (pF (f 13))).1.d,.si .i64 (G.gl v u (pF (f 13))).2],some [],glO v u (pF (f 13))++(lk (leafI 4 f 0 v u)++ [])):=by kernel_rfl
def deOf:List SV->Option Lf
 | [.agg [.i .u8 k,.fl a0,.fl a1,.fl a2,.fl a3,.fl a4,.fl a5,.fl a6,.fl a7,.fl a8,.fl a9,.fl a10,.fl a11,.fl a12,.fl a13,.fl a14,.fl a15,.i .i64 0,.i .i64 0],.agg [.fl p0,.fl p1,.fl p2,.fl p3,.fl p4,.fl p5],.agg [.fl r0,.fl r1,.fl r2,.fl r3,.fl r4,.fl r5]]=>some ⟨k,ndF a0 a1 a2 a3 a4 a5 a6 a7 a8 a9 a10 a11 a12 a13 a14 a15,0,⟨⟨p0,p1⟩,⟨p2,p3⟩,⟨p4,p5⟩⟩,⟨⟨r0,r1⟩,⟨r2,r3⟩,⟨r4,r5⟩⟩⟩
 |_=>none
def dArgs(k:Int)(f:Nat->F)(v u:V3):List SV:=[nodeS k f,v.sv,u.sv]
theorem deOf_plain{l:List SV}{x:Lf}(h:deOf l=some x):etaF x.f=x.f/\x.c=0/\∃vs,plains l=some vs/\plains (dArgs x.k x.f x.v x.u)=some vs:=by
 unfold deOf at h;split at h
 ·simp only[sIz]at h;subst h;exact⟨rfl,rfl,_,rfl,rfl⟩
 ·cases h
def dnG4(G:Gm)(l:Lf):I×Int:=match l.k with
 |1=>G.lb l.v.z
 |2=>G.lb l.v.z
 |3=>((G.gl l.v l.u (pF (l.f 13))).1.d,(G.gl l.v l.u (pF (l.f 13))).2)
 |4=>((G.gl l.v l.u (pF (l.f 13))).1.d,(G.gl l.v l.u (pF (l.f 13))).2)
 |_=>(I.zero,0)
def dnO4(l:Lf):Obs:=lkOl l++match l.k with
 |1=>u01O l.v.z
 |2=>u01O l.v.z
 |3=>glO l.v l.u (pF (l.f 13))
 |4=>glO l.v l.u (pF (l.f 13))
 |_=>[(false,true)]
def kDe(g:Lf->I×Int)(o:Lf->Obs)(args:List SV)(ds:Dec):Option (SV×Dec×Obs):=match deOf args with
 |some l=>some (.tup [.agg [.fl (g l).1.lo,.fl (g l).1.hi],.si .i64 (g l).2],ds,o l)
 |none=>none
theorem oracleDy:OracleOk prog (ODy (lfB lkOl) GmR):= .cons lookK.of (.cons lbG.of (.cons glG.of (.nil _)))
theorem denK:PlainOk prog 153 (kDe (dnG4 GmR) dnO4):=by
 intro args ds x ds' ob h ho;unfold kDe at h;split at h
 ·rename_i l e;simp only[sIz,pIz]at h;obtain⟨rfl,_,rfl⟩:=h;obtain⟨hf,hc,vs,h1,h2⟩:=deOf_plain e;obtain⟨k,f,c,v,u⟩:=l;simp only at hf hc h2;subst hc;refine⟨vs,_,h1,(plIt _ _).1,fun w=> ?_⟩;have hlk:ObsOk (lfB lkOl (leafI k f 0 v u)++ []):=by have e:lfOf (leafI k f 0 v u)=some ⟨k,etaF f,0,v,u⟩:=rfl;unfold lfB;rw[e,hf];exact ob_a (ob_l ho) ob_n
  have ho2:=ob_r ho;split at ho2
  ·rename_i q;simp only at q;subst q;exact calls_of_val goodG oracleDy 80 (deRun1 _ _ f v u) (ob_a ho2 hlk) h2 (plIt _ _).1 w
  ·rename_i q;simp only at q;subst q;exact calls_of_val goodG oracleDy 80 (deRun2 _ _ f v u) (ob_a ho2 hlk) h2 (plIt _ _).1 w
  ·rename_i q;simp only at q;subst q;exact calls_of_val goodG oracleDy 80 (deRun3 _ _ f v u) (ob_a ho2 hlk) h2 (plIt _ _).1 w
  ·rename_i q;simp only at q;subst q;exact calls_of_val goodG oracleDy 80 (deRun4 _ _ f v u) (ob_a ho2 hlk) h2 (plIt _ _).1 w
  ·exact absurd (ob_h ho2) (by simp)
 ·cases h
end Go.Proofs.YtejcekikbnlllaaGreat
