/- A weight's width, plain: an albedo is held narrowly. A weight of Lambert's at numbers: no .. -/
import Derived.Test.YtejcekikbnlllaaGreatU17
set_option linter.all false
set_option maxRecDepth 100000
open Go.Proofs.Tryz(prog)
namespace Bu
open Rx Go
theorem pi_lo:PIc.lo.q*2251799813685248=7074237752028440:=q_of' (n:=7074237752028440) (s:=51) (by decide+kernel) (by decide+kernel)
theorem pi_hi:PIc.hi.q*2251799813685248=7074237752028441:=q_of' (n:=7074237752028441) (s:=51) (by decide+kernel) (by decide+kernel)
theorem pi_bd:3<=PIc.lo.q/\PIc.hi.q<=4/\PIc.lo.q<=PIc.hi.q/\PIc.hi.q<=PIc.lo.q+PIc.lo.q*rl:=by
 have a:=pi_lo;have b:=pi_hi;have c:=rl_v;generalize PIc.lo.q=x at*;generalize PIc.hi.q=y at*;generalize rl=d at*;have e:x*d*2251799813685248=x:=by grind
 refine⟨by grind,by grind,by grind,by grind⟩
theorem quo_nn{a b:Rat}(ha:0<=a)(hb:0<b):0<=a/b:=by have e:a/b*b=a:=Rat.div_mul_cancel (by grind);apply Rat.not_lt.1;intro g;have:=Rat.mul_pos (show 0 < -(a/b) by grind) hb;grind
theorem quo_le{a b c:Rat}(hb:0<b)(h:a<=c*b):a/b<=c:=by have e:a/b*b=a:=Rat.div_mul_cancel (by grind);apply Rat.not_lt.1;intro g;have:=Rat.mul_pos (show 0<a/b-c by grind) hb;grind
theorem quo_ge{a b c:Rat}(hb:0<b)(h:c*b<=a):c<=a/b:=by have e:a/b*b=a:=Rat.div_mul_cancel (by grind);apply Rat.not_lt.1;intro g;have:=Rat.mul_pos (show 0<c-a/b by grind) hb;grind
end Bu
namespace Go.Proofs.YtejcekikbnlllaaGreat
open Go.RowKit Bu Rx
theorem pi_dv:one64.k<=PIc.lo.k/\PIc.lo.k<=PIc.hi.k:=by decide+kernel
theorem lb_dq(a:I):lbK KkR a=([(KkR.div 0 a PIc).1,PIc,a],(KkR.div 0 a PIc).2):=rfl
theorem lb_dv{a:I}(h:Uz1 a):∃r,lnR (lbK KkR a) 0=(r,0)/\KkR.div 0 a PIc=(r,0)/\rt r=true/\∀x,Mem a x->Mem r (x/PIc.lo.q):=by
 obtain⟨m,e,l,_⟩:=box_lb;have b:=box (v:=[a]) (w:=[bz1]) m ⟨h.box,trivial⟩ e;have b1:(lbK KkR a).2=0:=b.1;have d:(KkR.div 0 a PIc).2=0:=by rw[lb_dq]at b1;exact b1
 have e1:gt (lbK KkR a).1 0=(KkR.div 0 a PIc).1:=by rw[lb_dq];rfl
 refine⟨(KkR.div 0 a PIc).1,by rw[lnR_0 b1,e1],Prod.ext rfl d,by rw[<-e1];exact(b.2 0).rt,fun x hx=> ?_⟩;obtain⟨_,_,f⟩:=step_fact (o:= .div 0 1) (v:=[a,PIc]) (e:=0) d;have f2:Fact (.div 0 1) [a,PIc] (KkR.div 0 a PIc).1:=f;exact p_div f2 hx ⟨Rat.le_refl,q_le.2 pi_dv.2⟩
def outF:List Bu.Op->List Bool->List Bool
 | [],s=>s
 |o::l,s=>outF l (nnS o s::s)
theorem cond_flags:∀{l:List Bu.Op}{s:List Bool}{v u:List I},Flags s v->(∀a∈v,rt a=true)->CondE l v->Chain l v u->Flags (outF l s) u
 | [], s, v, u, hf, _, _, hc => by have e:u=v:=hc;subst e;exact hf
 | o :: l, s, v, u, hf, hv, hc, hh => by
   obtain⟨r,hr,hu⟩:=hh;have h1:=fact_rt hv hc.1 hr;refine cond_flags (l:=l) (s:=nnS o s::s) (fun i hi=> ?_) (fun a ha=> ?_) (hc.2 r hr h1) hu
   ·cases i with
    |zero=>exact fact_nn hv hf hr hi
    |succ i=>exact hf i hi
   ·rcases List.mem_cons.1 ha with rfl|ha
    ·exact h1
    ·exact hv a ha
theorem line_nn{l:List Bu.Op}{s:List Bool}{v:List I}(hf:Flags s v)(hv:∀a∈v,rt a=true)(hc:CondE l v)(h:(evalK KkR l v 0).2=0){i:Nat}(hi:(outF l s).getD i false=true):0<=(gt (evalK KkR l v 0).1 i).lo.q:=cond_flags hf hv hc (eval_chain h).2 i hi
theorem fl_2{a b:I}(h1:0<=a.lo.q)(h2:0<=b.lo.q):Flags [true,true] [a,b]:=fun i hi=>by
 match i,hi with
 |0,_=>exact h1
 |1,_=>exact h2
theorem fl_3{a b c:I}(h1:0<=a.lo.q)(h2:0<=b.lo.q)(h3:0<=c.lo.q):Flags [true,true,true] [a,b,c]:=fun i hi=>by
 match i,hi with
 |0,_=>exact h1
 |1,_=>exact h2
 |2,_=>exact h3
theorem fl_5{a b c d e:I}(h1:0<=a.lo.q)(h2:0<=b.lo.q)(h3:0<=c.lo.q)(h4:0<=d.lo.q)(h5:0<=e.lo.q):Flags [true,true,true,true,true] [a,b,c,d,e]:=fun i hi=>by
 match i,hi with
 |0,_=>exact h1
 |1,_=>exact h2
 |2,_=>exact h3
 |3,_=>exact h4
 |4,_=>exact h5
theorem nn_rows:(outF ggD [true,true]).getD 0 false=true/\(outF gg1 [true,true]).getD 0 false=true/\(outF gg2 [true,true,true]).getD 0 false=true/\(outF gg2 [true,true,true]).getD 17 false=true/\(outF miV [true,true,true,true,true]).getD 3 false=true/\(outF miV [true,true,true,true,true]).getD 0 false=true/\(outF frC [true,true,true]).getD 0 false=true:=by decide+kernel
theorem pi_nr:314/100<=PIc.lo.q/\PIc.lo.q<=315/100:=by have a:=pi_lo;generalize PIc.lo.q=x at*;constructor<;>grind
theorem in1_0{a:I}(h:InB a bz1):0<=a.lo.q/\a.hi.q<=1/\a.lo.q<=a.hi.q:=by
 have e0:(bz1.lo:F).q=0:=by rw[show bz1.lo=F.zero from F.ext' (by decide+kernel)];exact q_zero
 have e1:(bz1.hi:F).q=1:=one_q;have a0:=q_le.2 h.1;have a1:=q_le.2 h.2.1;rw[e0]at a0;rw[e1]at a1;exact⟨a0,a1,q_le.2 h.2.2⟩
theorem ga_pt2{v u:V3}{al:I}{x y:Rat}(h:(evalK KkR gg2 [u.z,v.z,al] 0).2=0)(hx:Mem (gt (evalK KkR gg2 [u.z,v.z,al] 0).1 17) x)(hy:Mem (Lam u.z al) y)(hu:InB u.z bzz)(ha:InB al bal):Mem (Ga v u al) (1/(1+x+y)):=by have t2:=tw_get (l:=gg2) (t:=lamP) (v:=[u.z,v.z,al]) (w:=[u.z,al]) h (lam_ok hu ha).1 (fun i hi=>by match i,hi with|0,_=>rfl|1,_=>rfl) lam_tw.2.1;obtain⟨_,k⟩:=eval_chain h;have t2':Lam u.z al=_:=t2;rw[t2']at hy;unfold Ga;generalize (evalK KkR gg2 [u.z,v.z,al] 0).1=w at*;clear t2 t2';obtain⟨a2,ha2,o1,ho1,sq,hsq,o2,ho2,s1,hs1,t,ht,h,hh,o3,ho3,atn,hatn,s2,hs2,r,hr,o4,ho4,s3,hs3,x,hx,l,hl,s,hs,sqd,hsqd,o2d,ho2d,s1d,hs1d,td,htd,hd,hhd,o3d,ho3d,atd,hatd,s2d,hs2d,rd,hrd,o4d,ho4d,s3d,hs3d,xd,hxd,ld,hld,sd,hsd,o5,ho5,g,hg,hend⟩:=k;subst hend;exact p_div hg (p_num ho5 one_q) (p_add hsd (p_add hs (p_num ho1 one_q) hx) hy)
structure LeafQ (B:Rat) (z:Rat) (a d:I):Prop where
 ar:rt a=true
 dr:rt d=true
 a0:0<=a.lo.q
 d0:0<=d.lo.q
 pt:∃f p:Rat,Mem a f/\Mem d p/\0<=f/\0<=p/\f*z<=B*p
theorem gl_q{v u:V3}{al:I}(hv:Wd v)(hu:InB u.z bzz)(hu':Wd u)(ha:InB al bal)(h:(glR KkR GlR v u al).2=0) :
  0<v.z.lo.q/\LeafQ 1 v.z.lo.q (glR KkR GlR v u al).1.v (glR KkR GlR v u al).1.d/\(∃f p:Rat,Mem (glR KkR GlR v u al).1.v f/\Mem (glR KkR GlR v u al).1.d p/\0<=f/\0<=p/\f*v.z.lo.q<=p)/\(glR KkR GlR v u al).1.hf=gt (miE v u).1 3/\(miE v u).2=0:=by
 have hz:glErr KkR GlR v u al=0:=by
  unfold glR at h;cases c:neB (glErr KkR GlR v u al)
  ·exact neB_0 c
  ·rw[c]at h;exact h
 have e1:glR KkR GlR v u al=(glV KkR GlR v u al,0):=by unfold glR;rw[hz];rfl
 unfold glErr at hz;have c1:(GlR.H v u).2=0:=by
  cases c:neB (GlR.H v u).2
  ·exact neB_0 c
  ·rw[c,cT]at hz;exact hz
 rw[show neB (GlR.H v u).2=false by rw[c1];rfl,cF]at hz;have c2:(GlR.d (glH GlR v u).1 al).2=0:=by
  cases c:neB (GlR.d (glH GlR v u).1 al).2
  ·exact neB_0 c
  ·rw[c,cT]at hz;exact hz
 rw[show neB (GlR.d (glH GlR v u).1 al).2=false by rw[c2];rfl,cF]at hz;have c3:(GlR.b v.z u.z al).2=0:=by
  cases c:neB (GlR.b v.z u.z al).2
  ·exact neB_0 c
  ·rw[c,cT]at hz;exact hz
 rw[show neB (GlR.b v.z u.z al).2=false by rw[c3];rfl,cF]at hz;have c4:(GlR.o u.z al).2=0:=by
  cases c:neB (GlR.o u.z al).2
  ·exact neB_0 c
  ·rw[c,cT]at hz;exact hz
 rw[show neB (GlR.o u.z al).2=false by rw[c4];rfl,cF]at hz;have m0:(miE v u).2=0:=c1;have eln:(glH GlR v u).1=lnI v u:=by show(lnR (Bu.miK KkR v u) _).1=_;rw[lnR_0 (show(Bu.miK KkR v u).2=0 from c1)];rfl
 have ehf:(glH GlR v u).2=hfI v u:=by show(lnR (Bu.miK KkR v u) _).1=_;rw[lnR_0 (show(Bu.miK KkR v u).2=0 from c1)];rfl
 rw[eln]at c2;have d0:(evalK KkR ggD [lnI v u,al] 0).2=0:=ggR_inv c2;have g0':(g2K KkR v.z u.z al).2=0:=lnR_inv (i:=0) c3;have g0:(evalK KkR gg2 [u.z,v.z,al] 0).2=0:=g0';have o0:(evalK KkR gg1 [u.z,al] 0).2=0:=ggR_inv c4;have eD:(GlR.d (lnI v u) al).1=Da v u al:=by show(ggR KkR ggD (lnI v u) al).1=_;rw[ggR_0 d0];rfl
 have eG:(GlR.b v.z u.z al).1=Ga v u al:=by show(lnR (g2K KkR v.z u.z al) 0).1=_;rw[lnR_0 g0'];unfold g2K Ga;rfl
 have eO:(GlR.o u.z al).1=Gb u al:=by show(ggR KkR gg1 u.z al).1=_;rw[ggR_0 o0];rfl
 have eE:glE KkR GlR v u al=giE v u al:=by unfold glE giE;rw[eln,eD,eG,eO]
 rw[eE]at hz;have ev:(glR KkR GlR v u al).1.v=giV v u al:=by rw[e1];show gt (glE KkR GlR v u al).1 3=giV v u al;rw[eE];rfl
 have ed:(glR KkR GlR v u al).1.d=giD v u al:=by rw[e1];show gt (glE KkR GlR v u al).1 0=giD v u al;rw[eE];rfl
 have eh:(glR KkR GlR v u al).1.hf=gt (miE v u).1 3:=by rw[e1];exact ehf
 obtain⟨n1,n2,n3,n4,n5,n6,_⟩:=nn_rows;have ar:rt al=true:=inb_rt1 ha;have al0:0<=al.lo.q:=by have:=q_le.2 ha.1;have e:0<=(bal.lo:F).q:=nn_q (by decide+kernel);grind
 obtain⟨vz0,vz1,vz2⟩:=in1_0 hv.z;obtain⟨uz0,uz1,uz2⟩:=in1_0 hu'.z;obtain⟨hlo,_⟩:=hl_in c1;have lr:rt (lnI v u)=true:=hlo _ (List.mem_cons_of_mem _ (List.mem_cons_of_mem _ (List.mem_cons_self ..)));have l0:0<=(lnI v u).lo.q:=by have:=oTz (hlo _ (List.mem_cons_of_mem _ (List.mem_cons_self ..)));have:=q_le.2 this;have z:z64.q=0:=zero0_q;have this':z64.q<=(lnI v u).lo.q:=this;grind
 have Dn0:0<=(Da v u al).lo.q:=line_nn (fl_2 l0 al0) (rts2 lr ar) (gd_c lr ar) d0 n1;have Dr:rt (Da v u al)=true:=line_rt (rts2 lr ar) (gd_c lr ar) d0 0;have Gn0:0<=(Ga v u al).lo.q:=line_nn (fl_3 uz0 vz0 al0) (rts3 (inb_rt1 hu'.z) (inb_rt1 hv.z) ar) (gg2_c hv.z hu'.z ar) g0 n3;have Gr:rt (Ga v u al)=true:=line_rt (rts3 (inb_rt1 hu'.z) (inb_rt1 hv.z) ar) (gg2_c hv.z hu'.z ar) g0 0;have Ln0:=line_nn (fl_3 uz0 vz0 al0) (rts3 (inb_rt1 hu'.z) (inb_rt1 hv.z) ar) (gg2_c hv.z hu'.z ar) g0 n4;have Lr:rt (gt (evalK KkR gg2 [u.z,v.z,al] 0).1 17)=true:=line_rt (rts3 (inb_rt1 hu'.z) (inb_rt1 hv.z) ar) (gg2_c hv.z hu'.z ar) g0 _;have On0:0<=(Gb u al).lo.q:=line_nn (fl_2 uz0 al0) (rts2 (inb_rt1 hu'.z) ar) (gg1_c hu'.z ar) o0 n2;have Or:rt (Gb u al)=true:=line_rt (rts2 (inb_rt1 hu'.z) ar) (gg1_c hu'.z ar) o0 0;have r5:=rts5 Or Gr Dr (inb_rt1 hu'.z) (inb_rt1 hv.z);have cV:=mv_c Or Gr Dr (inb_rt1 hu'.z) (inb_rt1 hv.z);have Vn0:0<=(giV v u al).lo.q:=line_nn (fl_5 On0 Gn0 Dn0 uz0 vz0) r5 cV hz n5;have Vr:rt (giV v u al)=true:=line_rt r5 cV hz _;have En0:0<=(giD v u al).lo.q:=line_nn (fl_5 On0 Gn0 Dn0 uz0 vz0) r5 cV hz n6;have Er_:rt (giD v u al)=true:=line_rt r5 cV hz _;have zp:0<v.z.lo.q:=by
  by_cases g:0<v.z.lo.q
  ·exact g
  ·exfalso
   obtain⟨_,k⟩:=eval_chain hz;generalize (evalK KkR miV [Gb u al,Ga v u al,Da v u al,u.z,v.z] 0).1=r at*;obtain⟨four,hfour,m1,hm1,m2,hm2,m3,hm3,vv,hvv,_⟩:=k;have f:four64.q=4:=q_int (n:=4) (by decide+kernel);have m:=p_mul hm3 (p_mul hm2 (p_num hfour f) (show Mem v.z 0 from⟨by grind,by grind⟩)) (show Mem u.z u.z.lo.q from⟨Rat.le_refl,uz2⟩);have nz:=hvv.1;have e:(4:Rat)*0*u.z.lo.q=0:=by grind
   rw[e]at m;have:hasB m3 F.zero=true:=by unfold hasB;rw[show rt m3=true from AllR.rt hm3,dT (q_le.1 (by rw[q_zero];exact m.lo)),dT (q_le.1 (by rw[q_zero];exact m.hi))];rfl
   rw[show hasB m3 F.zero=false from nz]at this;cases this
 have wp:0<u.z.lo.q:=by
  have:=q_le.2 hu.1;have e:0<(bzz.lo:F).q:=by rw[<-q_zero];exact q_lt.2 (by decide+kernel)
  grind
 obtain⟨_,Hr,H0⟩:=lam_ok hu ha;have dl:Mem (Da v u al) (Da v u al).lo.q:=⟨Rat.le_refl,rt_le Dr⟩;have xl:Mem (gt (evalK KkR gg2 [u.z,v.z,al] 0).1 17) (gt (evalK KkR gg2 [u.z,v.z,al] 0).1 17).lo.q:=⟨Rat.le_refl,rt_le Lr⟩;have yl:Mem (Lam u.z al) (Lam u.z al).lo.q:=⟨Rat.le_refl,rt_le Hr⟩;obtain⟨P1,P2⟩:=gi_pt hz dl (ga_pt2 g0 xl yl hu ha) (gb_pt o0 yl hu ha) (show Mem v.z v.z.lo.q from⟨Rat.le_refl,vz2⟩) (show Mem u.z u.z.lo.q from⟨Rat.le_refl,uz2⟩);generalize (gt (evalK KkR gg2 [u.z,v.z,al] 0).1 17).lo.q=x at*;generalize (Lam u.z al).lo.q=y at*;generalize (Da v u al).lo.q=D at*;generalize v.z.lo.q=z at*;generalize u.z.lo.q=w at*;clear cV r5 hlo;have s1:0<1+y:=by grind
 have s2:0<1+x+y:=by grind
 have g1:0<=1/(1+y):=quo_nn (by grind) s1;have g2:0<=1/(1+x+y):=quo_nn (by grind) s2;have gg:1/(1+x+y)<=1/(1+y):=by refine quo_le s2 ?_;have e:1/(1+y)*(1+y)=1:=Rat.div_mul_cancel (by grind);have:=mN g1 Ln0;grind
 have w4:0<4*w:=by grind
 have zw:0<4*z*w:=Rat.mul_pos (by grind) wp;have Q:D*(1/(1+x+y))/(4*z*w)*z<=1/(1+y)*D/(4*w):=by have e1:D*(1/(1+x+y))/(4*z*w)*(4*z*w)=D*(1/(1+x+y)):=Rat.div_mul_cancel (by grind);refine quo_ge w4 ?_;have:=mN Dn0 (show 0<=1/(1+y)-1/(1+x+y) by grind);generalize D*(1/(1+x+y))/(4*z*w)=q at*;grind
 have F0:0<=D*(1/(1+x+y))/(4*z*w):=quo_nn (mN Dn0 g2) zw;have E0:0<=1/(1+y)*D/(4*w):=quo_nn (mN g1 Dn0) w4;rw[ev,ed];exact⟨zp,⟨Vr,Er_,Vn0,En0,_,_,P1,P2,F0,E0,by grind⟩,⟨_,_,P1,P2,F0,E0,Q⟩,eh,m0⟩
theorem one_wd{v:V3}(h:OneP v):Wd v:=⟨h.x,h.y,q_le.1 (by
 have e:(bz1.lo:F).q=0:=by rw[show bz1.lo=F.zero from F.ext' (by decide+kernel)];exact q_zero
 have:=h.up;rw[e];grind),h.z.hi,h.z.rt⟩
theorem fst3_er{a b c:Int}(ha:Er a)(hb:Er b)(hc:Er c):Er (fst3 a b c):=by
 unfold fst3;cases decide (a=0)
 ·exact ha
 ·cases decide (b=0)
  ·exact hb
  ·exact hc
theorem leafW{n:Nd}{p:Int}(h:okNd n p=true)(h5:n.k≠5)(h6:n.k≠6){v u:V3}(hv:Wd v)(hu:Wd u){c:Int}(c0:0<=c)(c3:c<3):LfO ⟨n.k,etaF n.f,c,v,u⟩:=⟨nd_leaf h h5 h6,hv.dir,hu.dir,c0,c3⟩
theorem evPs_w{cs:List SV}{len:Nat}(K:OkPg cs len){v u:V3}(hv:Wd v)(hu:Wd u):evPs NeR v u cs len=true:=
 List.all_eq_true.2 fun i hi=>by
  have hnd:=K.nd i (List.mem_range.1 hi);unfold evPB;generalize ndR cs (i*19)=n at hnd;by_cases h5:n.k=5
  ·rw[dT h5,cT]
  ·rw[dF h5,cF];by_cases h6:n.k=6
   ·rw[dT h6,cT,aTz];exact⟨obsB_of (fd_o hv.z (okNd_coatf hnd h6).1),obsB_of (fd_o hu.z (okNd_coatf hnd h6).1)⟩
   ·rw[dF h6,cF];obtain⟨a0,b0⟩:=okNd_leaf hnd h5 h6;have q:∀k:Nat,k<3->Bu.obsB (lfOb NeR v u n k)=true:=fun k hk=>obsB_of (ob_c (dT a0) (ob_c (dT b0) (leafW hnd h5 h6 hv hu (c:=(k:Int)) (by omega) (by omega)).val));rw[q 0 (by omega),q 1 (by omega),q 2 (by omega)];rfl
theorem evN_re{v u:V3}(hv:Wd v)(hu:Wd u){n:Nd}{p:Int}(hnd:okNd n p=true){k:Nat}(hk:k<3){l:Nat->Ch}(ha:n.k=5\/n.k=6->Rc (l n.a.toNat))(hb:n.k=5->Rc (l n.b.toNat)):REc (evN NeR v u k l n):=by
 unfold evN;by_cases h5:n.k=5
 ·rw[dT h5,cT];exact mixC_re (ha (.inl h5)) (hb h5)
 ·rw[dF h5,cF];by_cases h6:n.k=6
  ·rw[dT h6,cT];obtain⟨x,hx,ux⟩:=fd_all hv.z (bn_of (okNd_coatf hnd h6).1);obtain⟨y,hy,uy⟩:=fd_all hu.z (bn_of (okNd_coatf hnd h6).1);have e1:NeR.D v.z ⟨n.f 14,n.f 14⟩=(x,0):=hx;have e2:NeR.D u.z ⟨n.f 14,n.f 14⟩=(y,0):=hy;rw[e1,e2];exact overC_re ux.rt uy.rt (ha (.inr h6))
  ·rw[dF h6,cF];have r:=val_re (leafW hnd h5 h6 hv hu (c:=(k:Int)) (by omega) (by omega)) hv hu;exact⟨r.er,r.rt,zero_rt⟩
theorem evr_re{v u:V3}(hv:Wd v)(hu:Wd u){n:Nd}{p:Int}(hnd:okNd n p=true){l:Nat->Nat->Ch}(ha:n.k=5\/n.k=6->∀k,k<3->Rc (l k n.a.toNat))(hb:n.k=5->∀k,k<3->Rc (l k n.b.toNat)):Er (evEr NeR v u l n):=by
 have X:=fun k(hk:k<3)=>evN_re hv hu hnd hk (l:=l k) (fun h=>ha h k hk) (fun h=>hb h k hk);have F:=fst3_er (X 0 (by omega)).er (X 1 (by omega)).er (X 2 (by omega)).er;unfold evEr;by_cases h6:n.k=6
 ·rw[dT h6,cT];obtain⟨x,hx,_⟩:=fd_all hv.z (bn_of (okNd_coatf hnd h6).1);obtain⟨y,hy,_⟩:=fd_all hu.z (bn_of (okNd_coatf hnd h6).1);have e1:(NeR.D v.z ⟨n.f 14,n.f 14⟩).2=0:=congrArg Prod.snd hx;have e2:(NeR.D u.z ⟨n.f 14,n.f 14⟩).2=0:=congrArg Prod.snd hy;rw[dT e1,cT,dT e2,cT];exact F
 ·rw[dF h6,cF];exact F
theorem ev_re{v u:V3}(hv:Wd v)(hu:Wd u){cs:List SV}{len:Nat}(K:OkPg cs len):∀i,i<len->Er (evF NeR v u cs i)/\∀k,k<3->Rc (ltF NeR v u cs k i):=by
 intro i
 induction i using Nat.strongRecOn with
 | _ i ih =>
   intro hi;have hnd:=K.nd i hi;have g:∀{k:Nat}{a:Int},0<=a->a<i->evL NeR v u cs i k a.toNat=ltF NeR v u cs k a.toNat:=fun _ _=>chL_get _ (by omega);have M:∀{a:Int},0<=a->a<i->∀k,k<3->Rc (evL NeR v u cs i k a.toNat):=fun a0 a1 k hk=>by rw[g a0 a1];exact(ih _ (by omega) (by omega)).2 k hk
   have ha:(ndR cs (i*19)).k=5\/(ndR cs (i*19)).k=6->∀k,k<3->Rc (evL NeR v u cs i k (ndR cs (i*19)).a.toNat):=fun h56=>M (h56.elim (fun h5=>(okNd_mix hnd h5).1.1) fun h6=>(okNd_coat hnd h6).1) (h56.elim (fun h5=>(okNd_mix hnd h5).1.2) fun h6=>(okNd_coat hnd h6).2);have hb:(ndR cs (i*19)).k=5->∀k,k<3->Rc (evL NeR v u cs i k (ndR cs (i*19)).b.toNat):=fun h5=>M (okNd_mix hnd h5).2.1 (okNd_mix hnd h5).2.2;exact⟨evr_re hv hu hnd ha hb,fun k hk=>(evN_re hv hu hnd hk (fun h=>ha h k hk) (fun h=>hb h k hk)).rt⟩
theorem evE_er{v u:V3}(hv:Wd v)(hu:Wd u){cs:List SV}{len:Nat}(K:OkPg cs len):∀j,j<=len->Er (evE NeR v u cs j)
 |0,_=> .inl rfl
 | j + 1, h => by
   have e:evE NeR v u cs (j+1)=bif decide (evE NeR v u cs j=0)then evF NeR v u cs j else evE NeR v u cs j:=rfl
   rw[e];cases decide (evE NeR v u cs j=0)
   ·exact evE_er hv hu K j (by omega)
   ·exact(ev_re hv hu K j (by omega)).1
theorem b11_q{a:I}(h:B11 a):-1<=a.lo.q/\a.lo.q<=1/\a.lo.q<=a.hi.q:=by have h1:=q_le.2 h.lo;have h2:=q_le.2 h.hi;have h3:=rt_le h.rt;rw[mone_q]at h1;rw[one_q]at h2;exact⟨h1,by grind,h3⟩
theorem uz_q{a:I}(h:Uz1 a):0<=a.lo.q/\a.lo.q<=1/\a.lo.q<=a.hi.q:=by have h1:=q_le.2 h.lo;have h2:=q_le.2 h.hi;have h3:=rt_le h.rt;have z:z64.q=0:=zero0_q;rw[z]at h1;rw[one_q]at h2;exact⟨h1,by grind,h3⟩
theorem two_q:two64.q=2:=q_int (n:=2) (by decide+kernel)
theorem three_q:three64.q=3:=q_int (n:=3) (by decide+kernel)
theorem orV_q{r s sl:I}(hr:Uz1 r)(hs:Uz1 s)(hl:B11 sl):∃f:Rat,Mem (orV r s sl) f/\0<=f/\f*PIc.lo.q<=1555/1000:=by
 obtain⟨_,k⟩:=eval_chain (orV_box hr hs hl);unfold orV;generalize (evalK KkR orT [sl,s,r] 0).1=w at*;obtain⟨pi,hpi,two,htwo,n1,hn1,d1,hd1,n3,hn3,d2,hd2,ss,hss,m,hm,ad,had,a,ha,b,hb,bs,hbs,abs,habs,rv,hrv,v,hv,hend⟩:=k;subst hend;obtain⟨p1,p2,p3,p4⟩:=pi_bd;obtain⟨q1,q2⟩:=pi_nr;obtain⟨r0,r1,r2⟩:=uz_q hr;obtain⟨s0,s1,s2⟩:=uz_q hs;obtain⟨t0,t1,t2⟩:=b11_q hl;have mpi:Mem pi PIc.lo.q:=p_lit hpi ⟨Rat.le_refl,p3⟩;have mr:Mem r r.lo.q:=⟨Rat.le_refl,r2⟩;have ms:Mem s s.lo.q:=⟨Rat.le_refl,s2⟩;have mt:Mem sl sl.lo.q:=⟨Rat.le_refl,t2⟩;have e1:=p_div hd1 mpi (p_num htwo two_q);have e2:=p_div hd2 (p_num htwo two_q) (p_num hn3 three_q);have e3:=p_mul hm (p_sub hss e1 e2) ms;have e4:=p_div ha (p_num hn1 one_q) (p_add had mpi e3);have e5:=p_mul hb ms e4;have e6:=p_mul hrv mr (p_add habs e4 (p_mul hbs e5 mt));clear e1 e2 e3 e4 e5;generalize PIc.lo.q=P at*;generalize s.lo.q=σ at*;generalize sl.lo.q=t at*;generalize r.lo.q=ρ at*;have d2:P/2*2=P:=Rat.div_mul_cancel (by grind);have d3:(2:Rat)/3*3=2:=by decide+kernel
 generalize P/2=h at*;generalize (2:Rat)/3=c at*;have n1:=mN (show 0<=h-c by grind) s0;have n2:=mN (show 0<=1-σ by grind) (show 0<=P by grind);have n3:=mN s0 (show 0<=P-314/100 by grind);have a1:3<=P+(h-c)*σ:=by grind
 have a0:0<=1/(P+(h-c)*σ):=quo_nn (by grind) (by grind);have ae:1/(P+(h-c)*σ)*(P+(h-c)*σ)=1:=Rat.div_mul_cancel (by grind);have al:1/(P+(h-c)*σ)<=1/3:=quo_le (by grind) (by grind);have hs2:h*σ*2=P*σ:=by rw[<-d2];grind
 have cs2:c*σ*3=2*σ:=by rw[<-d3];grind
 have key:(1+σ)*P<=1555/1000*(P+(h-c)*σ):=by clear a0 ae al e6 mpi mr ms mt hpi hd1 hd2 hm ha had hb hbs habs hrv hv hss hn1 hn3 htwo;grind
 generalize 1/(P+(h-c)*σ)=A at*;have k1:=mN a0 (show 0<=1555/1000*(P+(h-c)*σ)-(1+σ)*P by grind);have n4:=mN s0 (show 0<=1-t by grind);have n5:=mN s0 (show 0<=1+t by grind);have n6:=mN a0 (show 0<=1+σ*t by grind);have n7:=mN a0 (show 0<=σ-σ*t by grind);have n8:=mN a0 (show 0<=1-σ by grind);have x0:0<=A+σ*A*t:=by grind
 have x1:A+σ*A*t<=A*(1+σ):=by grind
 have x2:A*(1+σ)<=1:=by grind
 have y0:=mN r0 x0;have y1:=mN (show 0<=1-ρ by grind) x0;generalize A+σ*A*t=X at*;have y2:ρ*X<=X:=by grind
 refine⟨ρ*X,p_kept hv e6 (by rw[show z64.q=0 from zero0_q];exact y0) (by rw[one_q];grind),y0,?_⟩;have y3:=mN (show 0<=A*(1+σ)-ρ*X by grind) (show 0<=P by grind);grind
theorem kept_pt{a:I}(h:rt a=true):rt (keptI a z64 one64)=true/\0<=(keptI a z64 one64).lo.q/\(keptI a z64 one64).lo.q<=1:=by
 obtain⟨e1,e2⟩:=keptI_k a z64 one64;have zk:z64.k<=one64.k:=by decide+kernel
 have h':=oTz h;have z:z64.q=0:=zero0_q;have l:=q_le.2 (show z64.k<=(keptI a z64 one64).lo.k by rw[e1];omega);have u:=q_le.2 (show(keptI a z64 one64).lo.k<=one64.k by rw[e1];omega);rw[z]at l;rw[one_q]at u;exact⟨keptI_rt h,l,u⟩
theorem fc_q{X Y Z:I}(hX:0<=X.lo.q)(hY:0<=Y.lo.q)(hZ:0<=Z.lo.q)(rX:rt X=true)(rY:rt Y=true)(rZ:rt Z=true)(h:(evalK KkR frC [X,Y,Z] 0).2=0):rt (gt (evalK KkR frC [X,Y,Z] 0).1 0)=true/\0<=(gt (evalK KkR frC [X,Y,Z] 0).1 0).lo.q/\∃f:Rat,Mem (gt (evalK KkR frC [X,Y,Z] 0).1 0) f/\0<=f/\f<=1:=by
 refine⟨line_rt (rts3 rX rY rZ) (fc_c rX rY rZ) h 0,line_nn (fl_3 hX hY hZ) (rts3 rX rY rZ) (fc_c rX rY rZ) h nn_rows.2.2.2.2.2.2,?_⟩;obtain⟨_,k⟩:=eval_chain h;generalize (evalK KkR frC [X,Y,Z] 0).1=W at*;obtain⟨half,hhalf,c2,hc2,o1,ho1,s0,hs0,s2,hs2,e2,he2,k2,hk2,t00,ht00,t0,ht0,tt,htt,n4,hn4,ek,hek,e4,he4,ab2,hab2,ab,hab,abt,habt,z0,hz0,mx,hmx,hm,hhm,a,ha,t1,ht1,n2,hn2,ta,hta,t2,ht2,r1,hr1,r2,hr2,r3,hr3,rs,hrs,u1,hu1,u2,hu2,t3,ht3,t4,ht4,v1,hv1,v2,hv2,v3,hv3,v4,hv4,rp,hrp,w,hw,f,hf,hend⟩:=k;subst hend;have r1:rt r3=true:=AllR.rt hr3.2;have r2:rt v4=true:=AllR.rt hv4;obtain⟨k1,k2,k3⟩:=kept_pt r1;obtain⟨m1,m2,m3⟩:=kept_pt r2;have e1:rs=keptI r3 z64 one64:=hrs;have e2:rp=keptI v4 z64 one64:=hrp;rw[<-e1]at k1 k2 k3;rw[<-e2]at m1 m2 m3;have q:q2.q=1/2:=by have:q2.q*2=1:=q_of' (n:=1) (s:=1) (by decide+kernel) rfl;grind
 have p:=p_mul hf (p_num hhalf q) (p_add hw (show Mem rs rs.lo.q from⟨Rat.le_refl,rt_le k1⟩) (show Mem rp rp.lo.q from⟨Rat.le_refl,rt_le m1⟩));exact⟨_,p,by grind,by grind⟩
theorem glM_q{z:Rat}{g:Gl4×Int}{r:I×Int}{a:I}(h:glM KkR g r=(a,0))(z0:0<=z)(hg:g.2=0->LeafQ 1 z g.1.v g.1.d)(hr:g.2=0->r.2=0->rt r.1=true/\0<=r.1.lo.q/\∃f:Rat,Mem r.1 f/\0<=f/\f<=1):g.2=0/\LeafQ 1 z a g.1.d:=by
 unfold glM at h;cases c1:neB g.2
 ·have g0:=neB_0 c1;rw[c1,cF]at h;cases c2:neB r.2
  ·have r0:=neB_0 c2;rw[c2,cF]at h;cases c3:neB (KkR.mul 0 g.1.v r.1).2
   ·rw[c3,cF]at h;have e1:(KkR.mul 0 g.1.v r.1).1=a:=congrArg Prod.fst h;have hm:KkR.mul 0 g.1.v r.1=(a,0):=Prod.ext e1 (neB_0 c3);obtain⟨ar,dr,a0,d0,f,p,fm,pm,f0,p0,hfp⟩:=hg g0;obtain⟨rr,rn,x,xm,x0,x1⟩:=hr g0 r0;have m0:=mul_0 (show(cMul dMul 0 g.1.v r.1).2=0 from neB_0 c3);have ff:Fact (.mul 0 1) [g.1.v,r.1] a:=mul_f hm;have nn:=fact_nn (s:=[true,true]) (rts2 ar rr) (fl_2 a0 rn) ff rfl;refine⟨g0,AllR.rt (show AllR a _ _ _ _ from ff),dr,nn,d0,_,p,mul_pt hm fm xm,pm,mN f0 x0,p0,?_⟩;have:=mN (mN f0 z0) (show 0<=1-x by grind);grind
   ·rw[c3,cT]at h;have:=congrArg Prod.snd h;rw[this]at c3;cases c3
  ·rw[c2,cT]at h;have:=congrArg Prod.snd h;rw[this]at c2;cases c2
 ·rw[c1,cT]at h;have:=congrArg Prod.snd h;rw[this]at c1;cases c1
theorem LeafQ.up{B C z:Rat}{a d:I}(h:LeafQ B z a d)(hBC:B<=C):LeafQ C z a d:=by obtain⟨ar,dr,a0,d0,f,p,fm,pm,f0,p0,hfp⟩:=h;refine⟨ar,dr,a0,d0,f,p,fm,pm,f0,p0,?_⟩;have:=mN p0 (show 0<=C-B by grind);grind
theorem leaf_q{B:Rat}{l:Lf}(hB:1<=B)(hOr:l.k=2->1555/1000<=B)(hl:LfO l)(hv:Wd l.v)(hu:OneP l.u){a d:I}(hF:vlG GmR KkR l=(a,0))(hD:dnG4 GmR l=(d,0)):LeafQ B l.v.z.lo.q a d:=by
 obtain⟨k,f,c,v,u⟩:=l;have r:=hl.r;have n:=hl.n;simp only at r n hv hu hOr hF hD ⊢;have hu':=one_wd hu;have hub:=(one_box hu).2.2;obtain⟨vz0,vz1,vz2⟩:=in1_0 hv.z;have uz:Uz1 v.z:=⟨inb_rt1 hv.z,hv.z.1,hv.z.2.1⟩;obtain⟨p1,p2,p3,p4⟩:=pi_bd;have lbd:lnR (lbK KkR v.z) 0=(d,0)->rt d=true/\0<=d.lo.q/\Mem d (v.z.lo.q/PIc.lo.q):=fun h=>by obtain⟨q,q1,_,q3,q4⟩:=lb_dv uz;obtain⟨q',q1',_,q5⟩:=lb_ok uz;obtain rfl:q=d:=congrArg Prod.fst (q1.symm.trans h);obtain rfl:q'=q:=congrArg Prod.fst (q1'.symm.trans h);exact⟨q3,by have:=q_le.2 q5;rwa [show z64.q=0 from zero0_q]at this,q4 _ ⟨Rat.le_refl,vz2⟩⟩
 have zp0:0<=v.z.lo.q/PIc.lo.q:=quo_nn vz0 (by grind);have zpe:v.z.lo.q/PIc.lo.q*PIc.lo.q=v.z.lo.q:=Rat.div_mul_cancel (by grind);have gd:∀{x:F},Rn minA one64 x->(glR KkR GlR v u (pF x)).2=0->LeafQ 1 v.z.lo.q (glR KkR GlR v u (pF x)).1.v (glR KkR GlR v u (pF x)).1.d/\InB (glR KkR GlR v u (pF x)).1.hf bz1:=fun hx h0=>by obtain⟨_,q,_,e,m⟩:=gl_q hv hub hu' (bal_of hx) h0;refine⟨q,?_⟩;rw[e];exact bz_hf hv hu' m
 rcases rt_kind r with e|e|e|e<;>subst e
 ·rw[val1_eq]at hF;rw[den1_eq,gm_lb]at hD;unfold meL at hF;rw[gm_lb]at hF;have rho:=uz_of (rt1_in r n);obtain⟨q,q1,_,q3,q4⟩:=lb_dv rho;obtain⟨q',q1',_,q5⟩:=lb_ok rho;obtain rfl:q=a:=congrArg Prod.fst (q1.symm.trans hF);obtain rfl:q'=q:=congrArg Prod.fst (q1'.symm.trans hF);obtain⟨dr,d0,dm⟩:=lbd hD;obtain⟨r0,r1,_⟩:=uz_q rho;have a0:=q_le.2 q5;rw[show z64.q=0 from zero0_q]at a0;have f0:0<=(pF (f c.toNat)).lo.q/PIc.lo.q:=quo_nn r0 (by grind);refine⟨q3,dr,a0,d0,_,_,q4 _ ⟨Rat.le_refl,Rat.le_refl⟩,dm,f0,zp0,?_⟩;have fe:(pF (f c.toNat)).lo.q/PIc.lo.q*PIc.lo.q=(pF (f c.toNat)).lo.q:=Rat.div_mul_cancel (by grind);have k1:=mN zp0 (show 0<=1-(pF (f c.toNat)).lo.q by grind);have k2:=mN zp0 (show 0<=B-1 by grind);generalize v.z.lo.q/PIc.lo.q=Z at*;generalize (pF (f c.toNat)).lo.q/PIc.lo.q=R at*;have k3:R*v.z.lo.q=Z*(pF (f c.toNat)).lo.q:=by rw[<-zpe,<-fe];grind
  grind
 ·rw[val2_eq]at hF;rw[den2_eq,gm_lb]at hD;obtain⟨ha,hb⟩:=rt2_in r n;have h0:(dtK KkR v u).2=0:=by
   unfold meO at hF;cases c1:neB (dtK KkR v u).2
   ·exact neB_0 c1
   ·rw[c1,cT]at hF;exact congrArg Prod.snd hF
  rw[meO_eq h0]at hF;obtain⟨sl,h1,h2⟩:=or_to (uz_of ha) (uz_of hb) (congrArg Prod.snd hF);obtain rfl:orV (pF (f c.toNat)) (pF (f 12)) sl=a:=congrArg Prod.fst (h2.symm.trans hF);have q:=orV_in (uz_of ha) (uz_of hb) (sl_b h1);obtain⟨x,xm,x0,xp⟩:=orV_q (uz_of ha) (uz_of hb) (sl_b h1);obtain⟨dr,d0,dm⟩:=lbd hD;have hB':=hOr rfl;refine⟨q.rt,dr,(uz_q q).1,d0,x,_,xm,dm,x0,zp0,?_⟩;have k1:=mN zp0 (show 0<=B-x*PIc.lo.q by grind);clear lbd gd dm xm;generalize v.z.lo.q/PIc.lo.q=Z at*;show x*v.z.lo.q<=B*Z;rw[<-zpe];clear zpe;grind
 ·rw[val3_eq]at hF;rw[den3_eq,gm_gl]at hD;unfold meP at hF;rw[gm_gl,gm_dl]at hF
  dsimp only at hF
  obtain⟨ha,hb⟩:=rt3_in r;obtain⟨g0,q⟩:=glM_q hF vz0 (fun h=>(gd ha h).1) fun h _=>by obtain⟨x,hx,ux⟩:=fd_all (gd ha h).2 (bn_of hb);have hx':lnR (fdK KkR (glR KkR GlR v u (pF (f 13))).1.hf (pF (f 14))) 0=(x,0):=hx;rw[hx'];obtain⟨x0,x1,x2⟩:=uz_q ux;exact⟨ux.rt,x0,_,⟨Rat.le_refl,x2⟩,x0,x1⟩
  obtain rfl:(glR KkR GlR v u (pF (f 13))).1.d=d:=congrArg Prod.fst hD;exact q.up hB
 ·rw[val4_eq]at hF;rw[den4_eq,gm_gl]at hD;unfold meM at hF;rw[gm_gl,gm_cd]at hF
  dsimp only at hF
  obtain⟨ha,hb,hc⟩:=rt4_in r n;have pos:∀{x:F},Rn minMt maxMt x->0<=(pF x).lo.q:=fun h=>by have e:0<=(minMt:F).q:=nn_q (by decide+kernel);have:=q_le.2 h.1;show 0<=(_:F).q;exact Rat.le_trans e this
  obtain⟨g0,q⟩:=glM_q hF vz0 (fun h=>(gd ha h).1) fun h hr=>by
   have hf:=(gd ha h).2;have k0:(evalK KkR frC [(glR KkR GlR v u (pF (f 13))).1.hf,pF (f (6+c.toNat)),pF (f (9+c.toNat))] 0).2=0:=by
    have hr':(lnR (fcK KkR (glR KkR GlR v u (pF (f 13))).1.hf (pF (f (6+c.toNat))) (pF (f (9+c.toNat)))) 0).2=0:=hr;unfold lnR at hr';cases c1:neB (fcK KkR (glR KkR GlR v u (pF (f 13))).1.hf (pF (f (6+c.toNat))) (pF (f (9+c.toNat)))).2
    ·exact neB_0 c1
    ·rw[c1,cT]at hr';exact hr'
   have e:lnR (fcK KkR (glR KkR GlR v u (pF (f 13))).1.hf (pF (f (6+c.toNat))) (pF (f (9+c.toNat)))) 0=(gt (evalK KkR frC [(glR KkR GlR v u (pF (f 13))).1.hf,pF (f (6+c.toNat)),pF (f (9+c.toNat))] 0).1 0,0):=lnR_0 k0;rw[e];exact fc_q (in1_0 hf).1 (pos hb) (pos hc) (inb_rt1 hf) (pF_rt _) (pF_rt _) k0
  obtain rfl:(glR KkR GlR v u (pF (f 13))).1.d=d:=congrArg Prod.fst hD;exact q.up hB
theorem coatC_re{o:I}{a:Ch}(ho:rt o=true)(ha:Rc a):REc (coatC KkR o a):=by unfold coatC lessK;have q:=num_re (.inl rfl:Er 0) one_;have s:=sub_re q.er q.rt ho;have x:=mul_re s.er s.rt ha.p;have y:=mul_re x.er s.rt ha.m;have z:=add_re y.er ho y.rt;exact⟨z.er,x.rt,z.rt⟩
theorem daPs_w{cs:List SV}{len:Nat}(K:OkPg cs len){v u:V3}(hv:Wd v)(hu:Wd u):daPs NdR u.z (lfRo dnO4 v u) cs len=true:=
 List.all_eq_true.2 fun i hi=>by
  have hnd:=K.nd i (List.mem_range.1 hi);unfold nodP;generalize ndR cs (i*19)=n at hnd;by_cases h5:n.k=5
  ·rw[dT h5,cT]
  ·rw[dF h5,cF];by_cases h6:n.k=6
   ·rw[dT h6,cT];exact obsB_of (fd_o hu.z (okNd_coatf hnd h6).1)
   ·rw[dF h6,cF];obtain⟨a0,b0⟩:=okNd_leaf hnd h5 h6;exact obsB_of (ob_c (dT a0) (ob_c (dT b0) (leafW hnd h5 h6 hv hu (Int.le_refl _) (by decide)).den))
theorem nodC_re{v u:V3}(hv:Wd v)(hu:Wd u){n:Nd}{p:Int}(hnd:okNd n p=true){l:Nat->Ch}(ha:n.k=5\/n.k=6->Rc (l n.a.toNat))(hb:n.k=5->Rc (l n.b.toNat)):REc (nodC NdR u.z (lfR (dnG4 GmR) v u) l n):=by
 unfold nodC;by_cases h5:n.k=5
 ·rw[dT h5,cT];exact mixC_re (ha (.inl h5)) (hb h5)
 ·rw[dF h5,cF];by_cases h6:n.k=6
  ·rw[dT h6,cT];obtain⟨y,hy,uy⟩:=fd_all hu.z (bn_of (okNd_coatf hnd h6).1);have e2:NdR.D u.z ⟨n.f 14,n.f 14⟩=(y,0):=hy;rw[e2];exact coatC_re uy.rt (ha (.inr h6))
  ·rw[dF h6,cF];have r:=den_re (leafW hnd h5 h6 hv hu (Int.le_refl _) (by decide)) hv hu;exact⟨r.er,r.rt,(by decide:rt Ch.zero.m=true)⟩
theorem da_re{v u:V3}(hv:Wd v)(hu:Wd u){cs:List SV}{len:Nat}(K:OkPg cs len):∀i,i<len->Er (daF NdR u.z (lfR (dnG4 GmR) v u) cs i)/\Rc (chF (allF NdR u.z (lfR (dnG4 GmR) v u) cs) i):=by
 intro i
 induction i using Nat.strongRecOn with
 | _ i ih =>
   intro hi;have hnd:=K.nd i hi;have g:∀{a:Int},0<=a->a<i->daL NdR u.z (lfR (dnG4 GmR) v u) cs i a.toNat=chF (allF NdR u.z (lfR (dnG4 GmR) v u) cs) a.toNat:=fun _ _=>chL_get _ (by omega);have M:∀{a:Int},0<=a->a<i->Rc (daL NdR u.z (lfR (dnG4 GmR) v u) cs i a.toNat):=fun a0 a1=>by rw[g a0 a1];exact(ih _ (by omega) (by omega)).2
   have R:=nodC_re hv hu hnd (l:=daL NdR u.z (lfR (dnG4 GmR) v u) cs i) (fun h56=>M (h56.elim (fun h5=>(okNd_mix hnd h5).1.1) fun h6=>(okNd_coat hnd h6).1) (h56.elim (fun h5=>(okNd_mix hnd h5).1.2) fun h6=>(okNd_coat hnd h6).2)) (fun h5=>M (okNd_mix hnd h5).2.1 (okNd_mix hnd h5).2.2);refine⟨?_,R.rt⟩;unfold daF nodE;by_cases h6:(ndR cs (i*19)).k=6
   ·rw[dT h6,cT];obtain⟨y,hy,_⟩:=fd_all hu.z (bn_of (okNd_coatf hnd h6).1);have e2:(NdR.D u.z ⟨(ndR cs (i*19)).f 14,(ndR cs (i*19)).f 14⟩).2=0:=congrArg Prod.snd hy;rw[dT e2,cT];exact R.er
   ·rw[dF h6,cF];exact R.er
theorem daE_er{v u:V3}(hv:Wd v)(hu:Wd u){cs:List SV}{len:Nat}(K:OkPg cs len):∀j,j<=len->Er (daE NdR u.z (lfR (dnG4 GmR) v u) cs j)
 |0,_=> .inl rfl
 | j + 1, h => by
   have e:daE NdR u.z (lfR (dnG4 GmR) v u) cs (j+1)=bif decide (daE NdR u.z (lfR (dnG4 GmR) v u) cs j=0)then daF NdR u.z (lfR (dnG4 GmR) v u) cs j else daE NdR u.z (lfR (dnG4 GmR) v u) cs j:=rfl
   rw[e];cases decide (daE NdR u.z (lfR (dnG4 GmR) v u) cs j=0)
   ·exact daE_er hv hu K j (by omega)
   ·exact(da_re hv hu K j (by omega)).1
theorem div_re{e:Int}{a b:I}(he:Er e)(ha:rt a=true)(hb:rt b=true):RE (KkR.div e a b):=by
 by_cases e0:e=0
 ·subst e0;have h:=line_re (l:=[.div 1 0]) (v:=[b,a]) (rts2 hb ha) ⟨trivial,fun _ _ _=>trivial⟩ 0;have er:Er (evalK KkR [.div 1 0] [b,a] 0).2:=eval_er (rts2 hb ha) ⟨trivial,fun _ _ _=>trivial⟩;have ev:evalK KkR [.div 1 0] [b,a] 0=([(KkR.div 0 a b).1,b,a],(KkR.div 0 a b).2):=rfl;refine⟨by rw[ev]at er;exact er,?_⟩;by_cases g:(cDiv pDiv 0 a b).2=0
  ·exact AllR.rt (div_0 g).2.2.2.2.2
  ·show rt (cDiv pDiv 0 a b).1=true;unfold cDiv at g ⊢;rw[ask_zz g];exact zero_rt
 ·have e1:KkR.div e a b=(I.zero,e):=ask_kept e0 _ _;rw[e1];exact⟨he,zero_rt⟩
theorem wgOkF_er{cs:List SV}{len:Nat}(K:OkPg cs len){x y z a b c:F}(hx:unB x y z=true)(hz:z64.k<z.k)(ha:unB a b c=true)(hc:z64.k<c.k)(m:Bool) :
  Er (wgOkF WgN cs len x y z a b c m).e/\((wgOkF WgN cs len x y z a b c m).e≠0->wgOkF WgN cs len x y z a b c m=wgZr (wgOkF WgN cs len x y z a b c m).e)/\ObsOk (wgOf WgN cs len x y z a b c)\/cs.length≠len*19\/okPg cs len=false:=by
 by_cases hl:cs.length=len*19
 ·cases hok:okPg cs len
  ·exact .inr (.inr rfl)
  left;have wv:Wd (unV KkR a b c):=⟨(un_in hc).1,(un_in hc).2.1,(un_in hc).2.2⟩;have wu:Wd (unV KkR x y z):=⟨(un_in hz).1,(un_in hz).2.1,(un_in hz).2.2⟩;have e1:Er (wgEe WgN cs len x y z a b c):=evE_er wv wu K len (Nat.le_refl _);have e2:Er (wgDe WgN cs len x y z a b c):=daE_er wv wu K len (Nat.le_refl _);have hlo:=K.lo;have rl:∀j,j<3->Rc (wgL WgN cs len x y z a b c j):=fun j hj=>by
   show Rc (eeC NeR (unV KkR a b c) (unV KkR x y z) cs len j);unfold eeC;cases decide (evE NeR (unV KkR a b c) (unV KkR x y z) cs len=0)
   ·exact⟨(by decide+kernel:rt zCh.p=true),(by decide+kernel:rt zCh.m=true)⟩
   ·exact(ev_re wv wu K (len-1) (by omega)).2 j hj
  have rx:Rc (wgC WgN cs len x y z a b c):=by
   show Rc (daC NdR (unV KkR x y z).z (lfR (dnG4 GmR) (unV KkR a b c) (unV KkR x y z)) cs len);unfold daC;cases decide (daE NdR (unV KkR x y z).z (lfR (dnG4 GmR) (unV KkR a b c) (unV KkR x y z)) cs len=0)
   ·exact⟨(by decide+kernel:rt zCh.p=true),(by decide+kernel:rt zCh.m=true)⟩
   ·exact(da_re wv wu K (len-1) (by omega)).2
  have iz:rt (wgV WgN a b c).z=true:=by show rt (bif unB a b c then unV KkR a b c else V3.zero).z=true;rw[ha];exact inb_rt1 wv.z
  have ct:∀j,j<3->Er (wgK WgN cs len x y z a b c m j).2:=fun j hj=>by
   have r:=rl j hj;unfold wgK;cases m
   ·have p:=mul_re (.inl rfl:Er 0) r.p iz;exact(div_re p.er p.rt rx.p).er
   ·exact(div_re (.inl rfl:Er 0) r.m rx.m).er
  have zr:∀e:Int,(wgZr e).e=e:=fun _=>rfl;refine⟨?_,?_,?_⟩
  ·unfold wgOkF wgCo;cases decide (wgEe WgN cs len x y z a b c=0)
   ·exact e1
   ·cases decide (wgDe WgN cs len x y z a b c=0)
    ·exact e2
    ·cases decide ((wgK WgN cs len x y z a b c m 0).2=0)
     ·exact ct 0 (by omega)
     ·cases decide ((wgK WgN cs len x y z a b c m 1).2=0)
      ·exact ct 1 (by omega)
      ·cases decide ((wgK WgN cs len x y z a b c m 2).2=0)
       ·exact ct 2 (by omega)
       ·exact .inl rfl
  ·unfold wgOkF wgCo;cases decide (wgEe WgN cs len x y z a b c=0)
   ·exact fun _=>rfl
   ·cases decide (wgDe WgN cs len x y z a b c=0)
    ·exact fun _=>rfl
    ·cases decide ((wgK WgN cs len x y z a b c m 0).2=0)
     ·exact fun _=>rfl
     ·cases decide ((wgK WgN cs len x y z a b c m 1).2=0)
      ·exact fun _=>rfl
      ·cases decide ((wgK WgN cs len x y z a b c m 2).2=0)
       ·exact fun _=>rfl
       ·exact fun h=>absurd rfl h
  ·have oz:ObsOk (zzO WgN.ub a b c x y z):=ob_c (dF (Int.not_le.2 hz)) (ob_c (dF (Int.not_le.2 hc)) (ob_c hx (ob_c ha ob_n)));have oE:ObsOk (eeO WgN.E WgN.un WgN.ub cs len a b c x y z):=ob_a (ob_c (dT hl) (ob_c hok (ob_c (evPs_w K wv wu) (ob_a wu.dir wv.dir)))) (ob_a oz (ob_c hok ob_n));have oD:ObsOk (deO WgN.D WgN.un WgN.ub cs len a b c x y z):=ob_a (ob_c (dT hl) (ob_c hok (ob_c (daPs_w K wv wu) (ob_a wu.dir wv.dir)))) (ob_a oz (ob_c hok ob_n));unfold wgOf;refine ob_a oE ?_;cases decide (wgEe WgN cs len x y z a b c=0)
   ·exact ob_n
   ·exact oD
 ·exact .inr (.inl hl)
theorem kadd_i{e:Int}{a b:I}(h:(KkR.add e a b).2=0):e=0/\∃r,KkR.add e a b=(r,0)/\KkR.add 0 a b=(r,0):=by obtain rfl:=kadd_0 h;exact⟨rfl,_,Prod.ext rfl h,Prod.ext rfl h⟩
theorem ksub_i{e:Int}{a b:I}(h:(KkR.sub e a b).2=0):e=0/\∃r,KkR.sub e a b=(r,0)/\KkR.sub 0 a b=(r,0):=by obtain rfl:=ksub_0 h;exact⟨rfl,_,Prod.ext rfl h,Prod.ext rfl h⟩
theorem kmul_i{e:Int}{a b:I}(h:(KkR.mul e a b).2=0):e=0/\∃r,KkR.mul e a b=(r,0)/\KkR.mul 0 a b=(r,0):=by obtain rfl:=kmul_0 h;exact⟨rfl,_,Prod.ext rfl h,Prod.ext rfl h⟩
theorem ksqr_i{e:Int}{a:I}(h:(KkR.sqr e a).2=0):e=0/\∃r,KkR.sqr e a=(r,0)/\KkR.sqr 0 a=(r,0):=by obtain rfl:=ksqr_0 h;exact⟨rfl,_,Prod.ext rfl h,Prod.ext rfl h⟩
theorem knum_e(x:F):KkR.num 0 x=(pt x,0):=rfl
theorem one__:(one_:F)=one64:=rfl
structure MixI (w:F) (a b:I) (e:Int) (r:I):Prop where
 st:∃s m1 m2,KkR.sub 0 (pt one64) (pt w)=(s,0)/\KkR.mul 0 s a=(m1,0)/\KkR.mul 0 (pt w) b=(m2,0)/\KkR.add 0 m1 m2=(r,0)
 eq:mixK KkR e w a b=(r,0)
theorem mixK_inv{e:Int}{w:F}{a b:I}(h:(mixK KkR e w a b).2=0):e=0/\∃r,MixI w a b e r:=by have hh:=h;unfold mixK at h;obtain⟨z5,r,er,_⟩:=kadd_i h;obtain⟨z4,m2,em2,_⟩:=kmul_i z5;have z3:=knum_0 z4;obtain⟨z2,m1,em1,_⟩:=kmul_i z3;obtain⟨z1,s,es,_⟩:=ksub_i z2;have z0:=knum_0 z1;obtain rfl:=knum_0 z0;simp only[knum_e]at es em1 em2 er;simp only[es]at em1 em2 er;simp only[em1,knum_e]at em2 er;simp only[em2]at er;refine⟨rfl,r,⟨s,m1,m2,es,em1,em2,er⟩,Prod.ext ?_ hh⟩;unfold mixK;simp only[knum_e,one__];rw[one__]at es;simp only[es,em1,knum_e,em2,er]
structure CoatI (o:I) (a:Ch) (x z:I):Prop where
 st:∃s y,KkR.sub 0 (pt one64) o=(s,0)/\KkR.mul 0 s a.p=(x,0)/\KkR.mul 0 s a.m=(y,0)/\KkR.add 0 o y=(z,0)
 eq:coatC KkR o a=(⟨x,z⟩,0)
theorem coatC_inv{o:I}{a:Ch}(h:(coatC KkR o a).2=0):∃x z,CoatI o a x z:=by have hh:=h;unfold coatC lessK at h;obtain⟨z4,z,ez,_⟩:=kadd_i h;obtain⟨z3,y,ey,_⟩:=kmul_i z4;obtain⟨z2,x,ex,_⟩:=kmul_i z3;obtain⟨z1,s,es,_⟩:=ksub_i z2;simp only[knum_e]at es ex ey ez;simp only[es]at ex ey ez;simp only[ex]at ey ez;simp only[ey]at ez;exact⟨x,z,⟨s,y,es,ex,ey,ez⟩,coatC_st es ex ey ez⟩
structure OverI (i o:I) (w:F) (a:Ch) (f r:I):Prop where
 st:∃s g x y q t z,KkR.sub 0 (pt one64) o=(s,0)/\KkR.sub 0 (pt one64) i=(g,0)/\KkR.mul 0 g s=(x,0)/\KkR.mul 0 x (pt w)=(y,0)/\KkR.mul 0 y a.p=(f,0)/\KkR.sqr 0 s=(q,0)/\KkR.mul 0 q (pt w)=(t,0)/\KkR.mul 0 t a.m=(z,0)/\KkR.add 0 o z=(r,0)
 eq:overC KkR i o w a=(⟨f,r⟩,0)
theorem overC_inv{i o:I}{w:F}{a:Ch}(h:(overC KkR i o w a).2=0):∃f r,OverI i o w a f r:=by have hh:=h;unfold overC at h;obtain⟨z9,r,er,_⟩:=kadd_i h;obtain⟨z8,z,ez,_⟩:=kmul_i z9;obtain⟨z7,t,et,_⟩:=kmul_i z8;obtain⟨z6,q,eq,_⟩:=ksqr_i z7;obtain⟨z5,f,ef,_⟩:=kmul_i z6;obtain⟨z4,y,ey,_⟩:=kmul_i z5;obtain⟨z3,x,ex,_⟩:=kmul_i z4;obtain⟨z2,g,eg,_⟩:=ksub_i z3;obtain⟨z1,s,es,_⟩:=ksub_i z2;simp only[knum_e]at es eg ex ey ef eq et ez er;simp only[es]at eg ex ey ef eq et ez er;simp only[eg]at ex ey ef eq et ez er;simp only[ex]at ey ef eq et ez er;simp only[ey]at ef eq et ez er;simp only[ef]at eq et ez er;simp only[eq]at et ez er;simp only[et]at ez er;simp only[ez]at er;refine⟨f,r,⟨s,g,x,y,q,t,z,es,eg,ex,ey,ef,eq,et,ez,er⟩,?_⟩;unfold overC;rw[one__]at es eg;simp only[knum_e,one__,es,eg,ex,ey,ef,eq,et,ez,er]
theorem nn_mul{a b r:I}(h:KkR.mul 0 a b=(r,0))(ra:rt a=true)(rb:rt b=true)(a0:0<=a.lo.q)(b0:0<=b.lo.q):rt r=true/\0<=r.lo.q:=
 ⟨AllR.rt (show AllR r _ _ _ _ from mul_f h),fact_nn (s:=[true,true]) (rts2 ra rb) (fl_2 a0 b0) (mul_f h) rfl⟩
theorem nn_add{a b r:I}(h:KkR.add 0 a b=(r,0))(ra:rt a=true)(rb:rt b=true)(a0:0<=a.lo.q)(b0:0<=b.lo.q):rt r=true/\0<=r.lo.q:=
 ⟨fact_rt (o:= .add 0 1) (rts2 ra rb) trivial (add_f h),fact_nn (s:=[true,true]) (rts2 ra rb) (fl_2 a0 b0) (add_f h) rfl⟩
theorem sqr_f{a r:I}(h:KkR.sqr 0 a=(r,0)):Fact (.sqr 0) [a] r:=by
 have st:(stepK KkR (.sqr 0) [a] 0).2=0:=by show(KkR.sqr 0 a).2=0;rw[h]
 have f:=(step_fact st).2.2
 rwa [show(stepK KkR (.sqr 0) [a] 0).1=r from by show(KkR.sqr 0 a).1=r;rw[h]]at f
theorem nn_sqr{a r:I}(h:KkR.sqr 0 a=(r,0))(ra:rt a=true):rt r=true/\0<=r.lo.q:=
 ⟨fact_rt (o:= .sqr 0) (rts1 ra) trivial (sqr_f h),fact_nn (s:=[false]) (rts1 ra) (no_fl _ rfl) (sqr_f h) rfl⟩
theorem sqr_pt{a r:I}{x:Rat}(h:KkR.sqr 0 a=(r,0))(hx:Mem a x):Mem r (x*x):=p_sqr (sqr_f h) hx
theorem lo_mem{a:I}(h:rt a=true):Mem a a.lo.q:=⟨Rat.le_refl,rt_le h⟩
structure MirQ (r m:I):Prop where
 rr:rt r=true
 mr:rt m=true
 r0:0<=r.lo.q
 m0:0<=m.lo.q
 pt:∃x y:Rat,Mem r x/\Mem m y/\0<=x/\x<=y
theorem less_q{o s:I}(ho:InB o bz1)(h:KkR.sub 0 (pt one64) o=(s,0)):InB s bz1:=by obtain⟨s',e,b⟩:=less_in ho;obtain rfl:s'=s:=congrArg Prod.fst (e.symm.trans h);exact b
theorem LeafQ.mix{B z:Rat}{w:F}{a b d e r t:I}(hw:z64.k<=w.k/\w.k<=one64.k)(h:LeafQ B z a d)(k:LeafQ B z b e)(hr:MixI w a b 0 r){e0:Int}(ht:MixI w d e e0 t):LeafQ B z r t:=by
 obtain⟨ar,dr,a0,d0,f,p,fm,pm,f0,p0,fp⟩:=h;obtain⟨br,er,b0,e0',g,q,gm,qm,g0,q0,gq⟩:=k;obtain⟨s,m1,m2,es,e1,e2,e3⟩:=hr.st;obtain⟨s',n1,n2,es',e1',e2',e3'⟩:=ht.st;obtain rfl:s=s':=congrArg Prod.fst (es.symm.trans es');have hp:=pt_z1 hw;have sb:=less_q hp es;obtain⟨s0,s1,sr⟩:=in1_0 sb;obtain⟨w0,w1,wr⟩:=in1_0 hp;have rw_:rt (Bu.pt w)=true:=inb_rt1 hp;have rs_:rt s=true:=inb_rt1 sb;obtain⟨x1,y1⟩:=nn_mul e1 rs_ ar s0 a0;obtain⟨x2,y2⟩:=nn_mul e2 rw_ br w0 b0;obtain⟨x3,y3⟩:=nn_add e3 x1 x2 y1 y2;obtain⟨u1,v1⟩:=nn_mul e1' rs_ dr s0 d0;obtain⟨u2,v2⟩:=nn_mul e2' rw_ er w0 e0';obtain⟨u3,v3⟩:=nn_add e3' u1 u2 v1 v2;have sp:=sub_pt es one_mem' (pt_mem w);have P1:=add_pt e3 (mul_pt e1 sp fm) (mul_pt e2 (pt_mem w) gm);have P2:=add_pt e3' (mul_pt e1' sp pm) (mul_pt e2' (pt_mem w) qm);have W0:0<=w.q:=w0;have W1:0<=1-w.q:=by have:w.q<=1:=w1;grind
 generalize w.q=W at P1 P2 W0 W1;have k1:=mN W1 f0;have k2:=mN W0 g0;have k3:=mN W1 p0;have k4:=mN W0 q0;have k5:=mN W1 (show 0<=B*p-f*z by grind);have k6:=mN W0 (show 0<=B*q-g*z by grind);exact⟨x3,u3,y3,v3,_,_,P1,P2,by grind,by grind,by grind⟩
theorem MirQ.mix{w:F}{a b d e r t:I}(hw:z64.k<=w.k/\w.k<=one64.k)(h:MirQ a d)(k:MirQ b e){e1:Int}(hr:MixI w a b e1 r){e0:Int}(ht:MixI w d e e0 t):MirQ r t:=by
 obtain⟨ar,dr,a0,d0,f,p,fm,pm,f0,fp⟩:=h;obtain⟨br,er,b0,e0',g,q,gm,qm,g0,gq⟩:=k;obtain⟨s,m1,m2,es,e1,e2,e3⟩:=hr.st;obtain⟨s',n1,n2,es',e1',e2',e3'⟩:=ht.st;obtain rfl:s=s':=congrArg Prod.fst (es.symm.trans es');have hp:=pt_z1 hw;have sb:=less_q hp es;obtain⟨s0,s1,sr⟩:=in1_0 sb;obtain⟨w0,w1,wr⟩:=in1_0 hp;have rw_:rt (Bu.pt w)=true:=inb_rt1 hp;have rs_:rt s=true:=inb_rt1 sb;obtain⟨x1,y1⟩:=nn_mul e1 rs_ ar s0 a0;obtain⟨x2,y2⟩:=nn_mul e2 rw_ br w0 b0;obtain⟨x3,y3⟩:=nn_add e3 x1 x2 y1 y2;obtain⟨u1,v1⟩:=nn_mul e1' rs_ dr s0 d0;obtain⟨u2,v2⟩:=nn_mul e2' rw_ er w0 e0';obtain⟨u3,v3⟩:=nn_add e3' u1 u2 v1 v2;have sp:=sub_pt es one_mem' (pt_mem w);have P1:=add_pt e3 (mul_pt e1 sp fm) (mul_pt e2 (pt_mem w) gm);have P2:=add_pt e3' (mul_pt e1' sp pm) (mul_pt e2' (pt_mem w) qm);have W0:0<=w.q:=w0;have W1:0<=1-w.q:=by have:w.q<=1:=w1;grind
 generalize w.q=W at P1 P2 W0 W1;have k1:=mN W1 f0;have k2:=mN W0 g0;have k5:=mN W1 (show 0<=p-f by grind);have k6:=mN W0 (show 0<=q-g by grind);exact⟨x3,u3,y3,v3,_,_,P1,P2,by grind,by grind⟩
theorem coat_q{B z:Rat}{i o:I}{w:F}{a b:Ch}{f r x m:I}(z0:0<=z)(hw:z64.k<=w.k/\w.k<=one64.k)(hi:InB i bz1)(ho:InB o bz1)(h:LeafQ B z a.p b.p)(k:MirQ a.m b.m)(hr:OverI i o w a f r)(ht:CoatI o b x m):LeafQ B z f x/\MirQ r m:=by
 obtain⟨ar,dr,a0,d0,F,P,Fm,Pm,F0,P0,FP⟩:=h;obtain⟨br,er,b0,e0,X,Y,Xm,Ym,X0,XY⟩:=k;obtain⟨s,g,t1,t2,q,t3,t4,es,eg,e1,e2,e3,e4,e5,e6,e7⟩:=hr.st;obtain⟨s',y,es',f1,f2,f3⟩:=ht.st;obtain rfl:s=s':=congrArg Prod.fst (es.symm.trans es');have hp:=pt_z1 hw;have sb:=less_q ho es;have gb:=less_q hi eg;obtain⟨s0,s1,sr⟩:=in1_0 sb;obtain⟨g0,g1,gr⟩:=in1_0 gb;obtain⟨w0,w1,wr⟩:=in1_0 hp;obtain⟨o0,o1,orr⟩:=in1_0 ho;obtain⟨i0,i1,irr⟩:=in1_0 hi;have rw_:rt (Bu.pt w)=true:=inb_rt1 hp;have rs_:rt s=true:=inb_rt1 sb;obtain⟨c1,d1⟩:=nn_mul e1 (inb_rt1 gb) rs_ g0 s0;obtain⟨c2,d2⟩:=nn_mul e2 c1 rw_ d1 w0;obtain⟨c3,d3⟩:=nn_mul e3 c2 ar d2 a0;obtain⟨c4,d4⟩:=nn_sqr e4 rs_;obtain⟨c5,d5⟩:=nn_mul e5 c4 rw_ d4 w0;obtain⟨c6,d6⟩:=nn_mul e6 c5 br d5 b0;obtain⟨c7,d7⟩:=nn_add e7 (inb_rt1 ho) c6 o0 d6;obtain⟨h1,j1⟩:=nn_mul f1 rs_ dr s0 d0;obtain⟨h2,j2⟩:=nn_mul f2 rs_ er s0 e0;obtain⟨h3,j3⟩:=nn_add f3 (inb_rt1 ho) h2 o0 j2;have om:=lo_mem (inb_rt1 ho);have im:=lo_mem (inb_rt1 hi);have sp:=sub_pt es one_mem' om;have gp:=sub_pt eg one_mem' im;have A1:=mul_pt e3 (mul_pt e2 (mul_pt e1 gp sp) (pt_mem w)) Fm;have A2:=mul_pt f1 sp Pm;have A3:=add_pt e7 om (mul_pt e6 (mul_pt e5 (sqr_pt e4 sp) (pt_mem w)) Xm);have A4:=add_pt f3 om (mul_pt f2 sp Ym);have W0:0<=w.q:=w0;have W1:w.q<=1:=w1;have oH:o.lo.q<=1:=by grind
 have iH:i.lo.q<=1:=by grind
 generalize w.q=W at A1 A3 W0 W1;generalize o.lo.q=O at A1 A2 A3 A4 o0 oH;generalize i.lo.q=J at A1 i0 iH;have n1:0<=1-O:=by grind
 have n2:0<=1-J:=by grind
 have n3:=mN n2 n1;have n4:=mN n3 W0;have n5:=mN n4 F0;have n6:=mN n1 P0;have n7:=mN n1 n1;have n8:=mN n7 W0;have n9:=mN n8 X0;refine⟨⟨c3,h1,d3,j1,_,_,A1,A2,n5,n6,?_⟩,⟨c7,h3,d7,j3,_,_,A3,A4,by grind,?_⟩⟩
 ·have q1:=mN n1 (show 0<=B*P-F*z by grind);have q2:0<=1-(1-J)*W:=by have:=mN i0 W0;grind
  have q3:=mN (mN n1 (mN F0 z0)) q2;generalize 1-O=U at*;generalize 1-J=V at*;grind
 ·have q1:=mN n1 (show 0<=Y-X by grind);have q2:0<=1-(1-O)*W:=by have:=mN o0 W0;grind
  have q3:=mN (mN n1 X0) q2;generalize 1-O=U at*;grind
theorem evr_0{v u:V3}{l:Nat->Nat->Ch}{n:Nd}(h:evEr NeR v u l n=0):(n.k=6->(NeR.D v.z ⟨n.f 14,n.f 14⟩).2=0/\(NeR.D u.z ⟨n.f 14,n.f 14⟩).2=0)/\∀k,k<3->(evN NeR v u k (l k) n).2=0:=by
 have three:∀{a b c:Int},fst3 a b c=0->a=0/\b=0/\c=0:=fun{a b c}h=>by
  unfold fst3 at h;by_cases ha:a=0
  ·rw[dT ha,cT]at h;by_cases hb:b=0
   ·rw[dT hb,cT]at h;exact⟨ha,hb,h⟩
   ·rw[dF hb,cF]at h;exact absurd h hb
  ·rw[dF ha,cF]at h;exact absurd h ha
 have pick:∀{F:Nat->Int},F 0=0/\F 1=0/\F 2=0->∀k,k<3->F k=0:=fun{F}h k hk=>by
  rcases (by omega:k=0\/k=1\/k=2)with rfl|rfl|rfl
  ·exact h.1
  ·exact h.2.1
  ·exact h.2.2
 unfold evEr at h;by_cases h6:n.k=6
 ·rw[dT h6,cT]at h;by_cases c1:(NeR.D v.z ⟨n.f 14,n.f 14⟩).2=0
  ·rw[dT c1,cT]at h;by_cases c2:(NeR.D u.z ⟨n.f 14,n.f 14⟩).2=0
   ·rw[dT c2,cT]at h;exact⟨fun _=>⟨c1,c2⟩,pick (F:=fun k=>(evN NeR v u k (l k) n).2) (three h)⟩
   ·rw[dF c2,cF]at h;exact absurd h c2
  ·rw[dF c1,cF]at h;exact absurd h c1
 ·rw[dF h6,cF]at h;exact⟨fun h=>absurd h h6,pick (F:=fun k=>(evN NeR v u k (l k) n).2) (three h)⟩
theorem nodE_0{cos:I}{lf:Nd->I×Int}{l:Nat->Ch}{n:Nd}(h:nodE NdR cos lf l n=0):(n.k=6->(NdR.D cos ⟨n.f 14,n.f 14⟩).2=0)/\(nodC NdR cos lf l n).2=0:=by
 unfold nodE at h;by_cases h6:n.k=6
 ·rw[dT h6,cT]at h;by_cases c1:(NdR.D cos ⟨n.f 14,n.f 14⟩).2=0
  ·rw[dT c1,cT]at h;exact⟨fun _=>c1,h⟩
  ·rw[dF c1,cF]at h;exact absurd h c1
 ·rw[dF h6,cF]at h;exact⟨fun h=>absurd h h6,h⟩
theorem zero_mq:MirQ I.zero Ch.zero.m:=⟨zero_rt,(by decide:rt Ch.zero.m=true),by show 0<=F.zero.q;rw[q_zero];exact Rat.le_refl,by show 0<=F.zero.q;rw[q_zero];exact Rat.le_refl,0,0,⟨by show F.zero.q<=0;rw[q_zero];exact Rat.le_refl,by show 0<=F.zero.q;rw[q_zero];exact Rat.le_refl⟩,⟨by show F.zero.q<=0;rw[q_zero];exact Rat.le_refl,by show 0<=F.zero.q;rw[q_zero];exact Rat.le_refl⟩,Rat.le_refl,Rat.le_refl⟩
theorem wb_node{B:Rat}(hB:1<=B){v u:V3}(hv:Wd v)(hu:OneP u){cs:List SV}{len:Nat}(K:OkPg cs len)(hOr:∀i,i<len->(ndR cs (i*19)).k=2->1555/1000<=B)(hE:evE NeR v u cs len=0)(hD:daE NdR u.z (lfR (dnG4 GmR) v u) cs len=0){k:Nat}(hk:k<3) :
  ∀i,i<len->LeafQ B v.z.lo.q (ltF NeR v u cs k i).p (chF (allF NdR u.z (lfR (dnG4 GmR) v u) cs) i).p/\MirQ (ltF NeR v u cs k i).m (chF (allF NdR u.z (lfR (dnG4 GmR) v u) cs) i).m:=by
 have hu':=one_wd hu;obtain⟨vz0,_,_⟩:=in1_0 hv.z;intro i
 induction i using Nat.strongRecOn with
 | _ i ih =>
   intro hi;have hnd:=K.nd i hi;have e1:=evE_0' hE i hi;have d1:=daE_0 hD i hi;have hOi:=hOr i hi;have e2:evEr NeR v u (evL NeR v u cs i) (ndR cs (i*19))=0:=e1;have d2:nodE NdR u.z (lfR (dnG4 GmR) v u) (daL NdR u.z (lfR (dnG4 GmR) v u) cs i) (ndR cs (i*19))=0:=d1;obtain⟨e3,e4⟩:=evr_0 e2;obtain⟨d3,d4⟩:=nodE_0 d2;have e5:=e4 k hk;have gl:∀{a:Int},0<=a->a<i->evL NeR v u cs i k a.toNat=ltF NeR v u cs k a.toNat:=fun _ _=>chL_get _ (by omega);have gd:∀{a:Int},0<=a->a<i->daL NdR u.z (lfR (dnG4 GmR) v u) cs i a.toNat=chF (allF NdR u.z (lfR (dnG4 GmR) v u) cs) a.toNat:=fun _ _=>chL_get _ (by omega);have hF:ltF NeR v u cs k i=(evN NeR v u k (evL NeR v u cs i k) (ndR cs (i*19))).1:=rfl;have hG:chF (allF NdR u.z (lfR (dnG4 GmR) v u) cs) i=(nodC NdR u.z (lfR (dnG4 GmR) v u) (daL NdR u.z (lfR (dnG4 GmR) v u) cs i) (ndR cs (i*19))).1:=rfl;rw[hF,hG];clear e1 d1 e2 d2 e4 hF hG;generalize ndR cs (i*19)=n at hnd e3 d3 e5 d4 hOi ⊢;unfold evN at e5 ⊢;unfold nodC at d4 ⊢;by_cases h5:n.k=5
   ·obtain⟨⟨a0,a1⟩,b0,b1⟩:=okNd_mix hnd h5;have w:=okNd_mixw hnd h5;obtain⟨pa,ma⟩:=ih n.a.toNat (by omega) (by omega);obtain⟨pb,mb⟩:=ih n.b.toNat (by omega) (by omega);rw[dT h5]at e5 d4 ⊢;simp only[cT]at e5 d4 ⊢;rw[gl a0 a1,gl b0 b1]at e5 ⊢;rw[gd a0 a1,gd b0 b1]at d4 ⊢;unfold mixC at e5 d4 ⊢;obtain⟨z1,r,hr⟩:=mixK_inv e5;obtain⟨_,q,hq⟩:=mixK_inv z1;obtain⟨z2,t,ht⟩:=mixK_inv d4;obtain⟨_,s,hs⟩:=mixK_inv z2;refine⟨?_,?_⟩
    ·show LeafQ B v.z.lo.q (mixK KkR 0 _ _ _).1 (mixK KkR 0 _ _ _).1;rw[hq.eq,hs.eq];exact pa.mix w pb hq hs
    ·show MirQ (mixK KkR _ _ _ _).1 (mixK KkR _ _ _ _).1;rw[hr.eq,ht.eq];exact ma.mix w mb hr ht
   ·by_cases h6:n.k=6
    ·obtain⟨a0,a1⟩:=okNd_coat hnd h6;obtain⟨c1,ct⟩:=okNd_coatf hnd h6;have hw:z64.k<=(n.f (3+k)).k/\(n.f (3+k)).k<=one64.k:=ct (3+k) (by rcases (by omega:k=0\/k=1\/k=2)with rfl|rfl|rfl<;>decide);obtain⟨pa,ma⟩:=ih n.a.toNat (by omega) (by omega);obtain⟨fi,i1,i2⟩:=fd_all hv.z (bn_of c1);obtain⟨fo,o1,o2⟩:=fd_all hu'.z (bn_of c1);have x1:NeR.D v.z ⟨n.f 14,n.f 14⟩=(fi,0):=i1;have x2:NeR.D u.z ⟨n.f 14,n.f 14⟩=(fo,0):=o1;have x3:NdR.D u.z ⟨n.f 14,n.f 14⟩=(fo,0):=o1;rw[dF h5,dT h6]at e5 d4 ⊢;simp only[cF,cT]at e5 d4 ⊢;rw[gl a0 a1,x1,x2]at e5 ⊢;rw[gd a0 a1,x3]at d4 ⊢;obtain⟨f,r,hr⟩:=overC_inv e5;obtain⟨x,m,hm⟩:=coatC_inv d4;have er:overC NeR.K fi fo (n.f (3+k)) (ltF NeR v u cs k n.a.toNat)=(⟨f,r⟩,0):=hr.eq;have em:coatC NdR.K fo (chF (allF NdR u.z (lfR (dnG4 GmR) v u) cs) n.a.toNat)=(⟨x,m⟩,0):=hm.eq;rw[er,em];exact coat_q vz0 hw i2.box o2.box pa ma hr hm
    ·rw[dF h5,dF h6]at e5 d4 ⊢;simp only[cF]at e5 d4 ⊢;have L:=leafW hnd h5 h6 hv hu' (c:=(k:Int)) (by omega) (by omega);have hd:dnG4 GmR ⟨n.k,etaF n.f,(k:Int),v,u⟩=((lfR (dnG4 GmR) v u n).1,0):=by have:(lfR (dnG4 GmR) v u n).2=0:=d4;exact Prod.ext rfl this
     have hf:vlG GmR KkR ⟨n.k,etaF n.f,(k:Int),v,u⟩=((NeR.g (lfE v u k n)).1,0):=Prod.ext rfl e5;exact⟨leaf_q (l:=⟨n.k,etaF n.f,(k:Int),v,u⟩) hB hOi L hv hu hf hd,zero_mq⟩
def eqDr(r d:DwR):Bool:=(r.k==d.k)&&((decide (r.p.1.k=d.p.1.k)&&(decide (r.p.2.1.k=d.p.2.1.k)&&(decide (r.p.2.2.k=d.p.2.2.k)&&true)))&&((eqIv r.b.x d.b.x&&(eqIv r.b.y d.b.y&&(eqIv r.b.z d.b.z&&true)))&&((r.a==d.a)&&((r.s==d.s)&&true))))
def eqW3(a b:Nat->I):Bool:=eqIv (a 0) (b 0)&&(eqIv (a 1) (b 1)&&(eqIv (a 2) (b 2)&&true))
inductive W3
 |m
 |d
 |f
def c156:F:=toF 4609704434591344886
def wlP(pc:List SV)(n:Nat):List SV:=(pc.drop 0).take (n*19)
def wlR(W:NWl)(pc:List SV)(n:Nat)(q:QWl)(X Y Z:F):SmR:=smF W.S (wlP pc n) n X Y Z q.x q.y q.z
def wlRo(W:NWl)(pc:List SV)(n:Nat)(q:QWl)(X Y Z:F):Obs:=(W.o (wlP pc n) n,true)::(smO W.S (wlP pc n) n X Y Z q.x q.y q.z++ [])
def wlD(r:SmR):List SV:=[.si .u8 r.d.k,.fl r.d.p.1,.fl r.d.p.2.1,.fl r.d.p.2.2,.fl r.d.b.x.lo,.fl r.d.b.x.hi,.fl r.d.b.y.lo,.fl r.d.b.y.hi,.fl r.d.b.z.lo,.fl r.d.b.z.hi,.si .i64 r.d.a,.b r.d.s]
def wlWt(r:SmR):List SV:=[.fl (r.w 0).lo,.fl (r.w 0).hi,.fl (r.w 1).lo,.fl (r.w 1).hi,.fl (r.w 2).lo,.fl (r.w 2).hi]
def wlM4(pc:List SV)(q:QWl)(X Y Z:F)(r:SmR):List Blk:=wlM pc q X Y Z++ [⟨57,wlD r,.ex⟩,⟨59,wlWt r,.ex⟩]
def wlT4(n:Nat)(m:F)(x:Nat->SV):List SV:=
 [x 0,x 1,x 2,x 3,.p 0 0,.p 1 0,.b false,.osl true 2 n,.p 3 0,.p 4 0,.p 5 0,x 11,.fl m,x 13,x 14,x 15,x 16,x 17,x 18,x 19,x 20,x 21,x 22,x 23,x 24,x 25,x 26,x 27,x 28,x 29,x 30,x 31,x 32,x 33,x 34,x 35,x 36,x 37,x 38,x 39,x 40,x 41,x 42,x 43,x 44,x 45,x 46,x 47,x 48,x 49,x 50,x 51,x 52,x 53,x 54,x 55,x 56,x 57,x 58,x 59,x 60,x 61,x 62,x 63,x 64,x 65,x 66,x 67,x 68,x 69,x 70,x 71,x 72,x 73,x 74,x 75,x 76,x 77,x 78,x 79,x 80,x 81,x 82,x 83,x 84,x 85,x 86,x 87,x 88,x 89,x 90,x 91,x 92,x 93,x 94,x 95,x 96,x 97,x 98,x 99,x 100,x 101,x 102,x 103,x 104,x 105,x 106,x 107,x 108,x 109]
def wlTL(n:Nat)(m:F)(j:SV)(x:Nat->SV):List SV:=
 [x 0,x 1,x 2,x 3,.p 0 0,.p 1 0,.b false,.osl true 2 n,.p 3 0,.p 4 0,.p 5 0,x 11,.fl m,x 13,x 14,x 15,x 16,x 17,x 18,x 19,x 20,x 21,x 22,x 23,x 24,x 25,x 26,x 27,x 28,x 29,x 30,x 31,x 32,x 33,x 34,x 35,x 36,x 37,x 38,x 39,x 40,x 41,x 42,x 43,x 44,x 45,x 46,x 47,x 48,x 49,x 50,x 51,x 52,x 53,x 54,x 55,x 56,x 57,.osl true 2 n,.si .i64 n,j,x 61,x 62,x 63,x 64,x 65,x 66,x 67,x 68,x 69,x 70,x 71,x 72,x 73,x 74,x 75,x 76,x 77,x 78,x 79,x 80,x 81,x 82,x 83,x 84,x 85,x 86,x 87,x 88,x 89,x 90,x 91,x 92,x 93,x 94,x 95,x 96,x 97,x 98,x 99,x 100,x 101,x 102,x 103,x 104,x 105,x 106,x 107,x 108,x 109]
def wlS4(pc:List SV)(n:Nat)(q:QWl)(X Y Z:F)(r:SmR)(m:F)(x:Nat->SV)(d:Dec):St:=⟨wlT4 n m x,wlM4 pc q X Y Z r,d,[]⟩
def wlSL(pc:List SV)(n:Nat)(q:QWl)(X Y Z:F)(r:SmR)(m:F)(j:SV)(x:Nat->SV)(d:Dec):St:=⟨wlTL n m j x,wlM4 pc q X Y Z r,d,[]⟩
section
variable (W:NWl) (pc:List SV) (n:Nat) (q:QWl) (X Y Z:F) (x:Nat->SV)
def wlEd:Bool->List Bool
 |true=>[true,true,true,true]
 |false=>[true,false,true,true,true]
def wlEe(e:Int):Bool->Obs
 |true=>[(e==11,true)]
 |false=>[(e==10,true),(e==11,false)]
theorem wlL_e(b:Bool):Lands prog EG (OWWl W) 60 (post 2 wlC) (wlS pc n q X Y Z x (some (wlEd b))) .ret:=by cases b<;>(unfold Lands;kernel_rfl)
theorem wlO_e(b:Bool):(aft prog EG (OWWl W) 60 (post 2 wlC) (wlS pc n q X Y Z x (some (wlEd b)))).ob=(eqW3 (wlR W pc n q X Y Z).w (fun _=>zI),true)::(eqDr (wlR W pc n q X Y Z).d ⟨0,(toF 0,toF 0,toF 0),⟨zI,zI,zI⟩,0,false,0⟩,true)::(wlEe (wlR W pc n q X Y Z).e b++(((wlR W pc n q X Y Z).e != 0,true)::wlRo W pc n q X Y Z)):=by cases b<;>kernel_rfl
theorem wlV_e(b:Bool):resultS prog Tryz.f8 (aft prog EG (OWWl W) 60 (post 2 wlC) (wlS pc n q X Y Z x (some (wlEd b))))=some (.b true):=by cases b<;>kernel_rfl
noncomputable abbrev wl4:St:=aftN prog EG (OWWl W) 60 4 (post 2 wlC) (wlS pc n q X Y Z x (some [false]))
theorem wlL4:LandsN prog EG (OWWl W) 60 4 (post 2 wlC) (wlS pc n q X Y Z x (some [false])):=by unfold LandsN;kernel_rfl
theorem wlO4:(wl4 W pc n q X Y Z x).ob=((wlR W pc n q X Y Z).e != 0,false)::wlRo W pc n q X Y Z:=by kernel_rfl
theorem wlM4_eq:selM (wl4 W pc n q X Y Z x).M [0,1,2,3,4,5]=some (wlM4 pc q X Y Z (wlR W pc n q X Y Z)):=by kernel_rfl
noncomputable def wlX4(v:Nat->Value):Nat->SV:=fun j=>((wl4 W pc n q X Y Z x).sel [0,1,2,3,4,5] [] v).T.getD j .np
theorem wlT4_eq(v:Nat->Value)(M':List Blk):((wl4 W pc n q X Y Z x).sel [0,1,2,3,4,5] M' v).T=wlT4 n (toF 4607182418800017408) (wlX4 W pc n q X Y Z x v):=by kernel_rfl
end
noncomputable def wlC4:Code:=post 4 (post 2 wlC)
noncomputable def wlRd:Code:=seqL (seqL wlC4)
noncomputable def wlBd:Code:=inner (inner (seqR (seqL wlC4)))
noncomputable def wlTl:Code:=seqR wlC4
theorem wlC4_cut:wlC4= .seq (.seq wlRd (.block 0 (.loop wlBd))) wlTl:=by kernel_rfl
section
variable (W:NWl) (pc:List SV) (n:Nat) (q:QWl) (X Y Z:F) (r:SmR) (m:F) (j:Int) (x:Nat->SV)
theorem wlLr:Lands prog EG (OWWl W) 60 wlRd (wlS4 pc n q X Y Z r m x none) .normal:=by unfold Lands;kernel_rfl
theorem wlOr:(aft prog EG (OWWl W) 60 wlRd (wlS4 pc n q X Y Z r m x none)).ob=[]:=by kernel_rfl
theorem wlTr:(aft prog EG (OWWl W) 60 wlRd (wlS4 pc n q X Y Z r m x none)).T=wlTL n m (.i .i64 0) x:=by kernel_rfl
theorem wlMr:(aft prog EG (OWWl W) 60 wlRd (wlS4 pc n q X Y Z r m x none)).M=wlM4 pc q X Y Z r:=by kernel_rfl
noncomputable abbrev wlB(b:Bool):St:=aft prog EG (OWWl W) 60 wlBd (wlSL pc n q X Y Z r m (.si .i64 j) x (some [true,b]))
theorem wlLb(b:Bool):Lands prog EG (OWWl W) 60 wlBd (wlSL pc n q X Y Z r m (.si .i64 j) x (some [true,b])) .normal:=by cases b<;>(unfold Lands;kernel_rfl)
theorem wlOb(b:Bool):(wlB W pc n q X Y Z r m j x b).ob=[(inAt pc (j.toNat*19)==2,b),(ckAll pc (j.toNat*19) ndCK,true),(ixB j n,true),(decide (j<n),true)]:=by cases b<;>kernel_rfl
theorem wlMb(b:Bool):selM (wlB W pc n q X Y Z r m j x b).M [0,1,2,3,4,5]=some (wlM4 pc q X Y Z r):=by cases b<;>kernel_rfl
noncomputable def wlXb(b:Bool)(v:Nat->Value):Nat->SV:=fun k=>((wlB W pc n q X Y Z r m j x b).sel [0,1,2,3,4,5] [] v).T.getD k .np
theorem wlTb(b:Bool)(v:Nat->Value)(M':List Blk):((wlB W pc n q X Y Z r m j x b).sel [0,1,2,3,4,5] M' v).T=wlTL n (bif b then c156 else m) (.si .i64 (IntKind.i64.wrap (j+1))) (wlXb W pc n q X Y Z r m j x b v):=by cases b<;>kernel_rfl
theorem wlLx:Lands prog EG (OWWl W) 60 wlBd (wlSL pc n q X Y Z r m (.si .i64 j) x (some [false])) (.exit 0):=by unfold Lands;kernel_rfl
theorem wlXo:aft prog EG (OWWl W) 60 wlBd (wlSL pc n q X Y Z r m (.si .i64 j) x (some [false]))=⟨wlTL n m (.si .i64 j) (fun k=>bif Nat.beq k 61 then .b false else x k),wlM4 pc q X Y Z r,some [],[(decide (j<n),false)]⟩:=by kernel_rfl
def wlTd:W3->List Bool
 | .m=>[false,false,false,true,false,false,false,false,false,true,false,false,false,false,false,true,false,false]
 | .d=>[false,false,false,false,false,false,false,false,false,false,false,false,false,false,false]
 | .f=>[false,false,false,false,true,false,false,false,false,false,true,false,false,false,false,false,true,false]
def wlK(r:SmR)(m:F)(k:W3)(i:Nat):Obs:=
 (match k with
  | .m=>[(r.d.k==0,false),(decide ((toF 4607182418800017408).k<(r.w i).lo.k),false),(r.d.k==1,true)]
  | .d=>[(r.d.k==0,false),(r.d.k==1,false)]
  | .f=>[(!eqIv (r.w i) zI,false),(r.d.k==0,true),(r.d.k==1,false)])++ [(decide ((r.w i).hi.k<(r.w i).lo.k),false),(decide ((r.w i).lo.k<(toF 0).k),false),(decide (m.k<(r.w i).lo.k),false)]
theorem wlLt(k:W3):Lands prog EG (OWWl W) 60 wlTl (wlSL pc n q X Y Z r m (.si .i64 j) x (some (wlTd k))) .ret:=by cases k<;>(unfold Lands;kernel_rfl)
theorem wlTo(k:W3):(aft prog EG (OWWl W) 60 wlTl (wlSL pc n q X Y Z r m (.si .i64 j) x (some (wlTd k)))).ob=wlK r m k 2++(wlK r m k 1++wlK r m k 0):=by cases k<;>kernel_rfl
theorem wlTs(k:W3):resultS prog Tryz.f8 (aft prog EG (OWWl W) 60 wlTl (wlSL pc n q X Y Z r m (.si .i64 j) x (some (wlTd k))))=some (.b true):=by cases k<;>kernel_rfl
end
end Go.Proofs.YtejcekikbnlllaaGreat
namespace Bu
open Rx Go
end Bu
namespace Bu
open Ieee
end Bu
namespace Bu
open Rx Go Ieee
end Bu
namespace Bu
open Rx Go
end Bu
namespace Go.Proofs.YtejcekikbnlllaaGreat
open Go.RowKit Bu Rx
structure Nwa where
 N:Npr
 T:Nwt
 E:Nev
 D:Nce
 un:F->F->F->V3
 ub:F->F->F->Bool
 mul:Int->I->I->I×Int
 me:I->I->Bool
section
variable (W:Nwa) (t0 t1 t2 i:Int) (u:U6)
end
theorem div_fc{a b r:I}(h:KkR.div 0 a b=(r,0)):Fact (.div 0 1) [a,b] r:=by
 have st:(stepK KkR (.div 0 1) [a,b] 0).2=0:=by show(KkR.div 0 a b).2=0;rw[h]
 have f:=(step_fact st).2.2
 rwa [show(stepK KkR (.div 0 1) [a,b] 0).1=r from by show(KkR.div 0 a b).1=r;rw[h]]at f
theorem div_pt{a b r:I}{x y:Rat}(h:KkR.div 0 a b=(r,0))(hx:Mem a x)(hy:Mem b y):Mem r (x/y):=p_div (div_fc h) hx hy
theorem rt3_Fm{p q r:F}:rt3W p.b q.b r.b=true:=by unfold rt3W;rw[right_F,right_F,right_F];rfl
theorem wgt_F{pc:List SV}{n:Nat}{k:Int}{a b c:F}(p q r:F):WtR.g pc n a b c k p.b q.b r.b=wgF WgN pc n a b c k p q r:=by show(bif rt3W p.b q.b r.b then wgF WgN pc n a b c k (toF p.b) (toF q.b) (toF r.b)else wtZ a b c k)=_;rw[rt3_Fm,cT,toF_F,toF_F,toF_F]
theorem wgo_F{pc:List SV}{n:Nat}{k:Int}{a b c:F}(hl:pc.length=n*19)(hok:okPg pc n=true){p q r:F}(h:ObsOk (bif unB a b c&&((!(k==0))&&(wgIs WgN a b c k p q r true||wgIs WgN a b c k p q r false))then wgOf WgN pc n a b c p q r else[])):ObsOk (WtR.o pc n a b c k p.b q.b r.b):=by refine ob_c (dT hl) (ob_c hok ?_);rw[rt3_Fm,cT,toF_F,toF_F,toF_F];exact ob_c (dT hl) (ob_c hok h)
end Go.Proofs.YtejcekikbnlllaaGreat
namespace Bu
open Rx Go
structure DirP (v:V3):Prop where
 x:In1 v.x
 y:In1 v.y
 z:InB v.z bz1
theorem irt{a:I}(h:In1 a):rt a=true:=dT h.rt
theorem DirP.zi{v:V3}(h:DirP v):In1 v.z:=⟨Int.le_trans (by decide+kernel:mone64.k<=z64.k) h.z.1,h.z.2.1,h.z.2.2⟩
theorem kept_in1{a:I}(h:rt a=true):InB (keptF a) bz1:=by
 obtain⟨e1,e2⟩:=keptI_k a z64 one64;have h1:=oTz h;have zo:z64.k<=one64.k:=by decide+kernel
 unfold keptF;refine⟨?_,?_,?_⟩
 ·rw[e1];show z64.k<=_;omega
 ·rw[e2];show _<=one64.k;omega
 ·rw[e1,e2];omega
theorem onB_er{s t:I}(hs:rt s=true)(ht:rt t=true):Er (onB KkR 0 s t).2:=by
 have h:=eval_er' (l:=[.div 1 0]) (s:=[false,false]) (v:=[t,s]) rfl (fun i hi=>by
  match i,hi with
  |0,h=>exact absurd h (by decide)
  |1,h=>exact absurd h (by decide)
  |i+2,h=>exact absurd h (by simp)) (fun a ha=>by
  simp only[List.mem_cons,List.not_mem_nil,or_false]at ha;rcases ha with rfl|rfl<;>assumption)
 exact h
theorem onN_er{s t:I}(hs:rt s=true)(ht:rt t=true):Er (onN KkR 0 s t).2:=by
 have h:=eval_er' (l:=[.sub 1 0,.sub 3 1,.div 1 0]) (s:=[false,false,false]) (v:=[t,s,pt one64]) rfl (fun i hi=>by
  match i,hi with
  |0,h=>exact absurd h (by decide)
  |1,h=>exact absurd h (by decide)
  |2,h=>exact absurd h (by decide)
  |i+3,h=>exact absurd h (by simp)) (fun a ha=>by
  simp only[List.mem_cons,List.not_mem_nil,or_false]at ha;rcases ha with rfl|rfl|rfl
  ·assumption
  ·assumption
  ·exact dT (Int.le_refl _))
 exact h
theorem ask_z{e:Int}{g:Bool}{r:I×Int}(h:(askI e g r).2≠0):(askI e g r).1=I.zero:=by
 unfold askI at h ⊢;cases h1:!(e==0)
 ·rw[h1,cF]at h;have he:e=0:=by simpa using h1
  cases g
  ·rfl
  ·rw[cT]at h;cases h2:!(r.2==0)
   ·rw[h2,cF]at h;exact absurd he h
   ·rfl
 ·rfl
theorem div_rt{e:Int}{a b:I}:rt (KkR.div e a b).1=true:=by
 by_cases h:(KkR.div e a b).2=0
 ·exact(div_0 h).2.2.2.2.2.rt
 ·have h':(cDiv pDiv e a b).2≠0:=h;show rt (cDiv pDiv e a b).1=true;unfold cDiv at h' ⊢;rw[ask_z h'];decide
theorem onB_in{e:Int}{s t:I}:InB (onB KkR e s t).1 bz1:=kept_in1 div_rt
theorem onN_in{e:Int}{s t:I}:InB (onN KkR e s t).1 bz1:=kept_in1 div_rt
theorem inb_rt{a b:I}(h:InB a b):rt a=true:=dT h.2.2
end Bu
namespace Go.Proofs.YtejcekikbnlllaaGreat
open Go.RowKit Bu Rx
structure EndP (cs:List SV) (len:Nat) (r:Pst×Bool):Prop where
 er:Er r.1.er
 a:r.1.a<len
 g:r.2=true->r.1.er=0/\(ndR cs (r.1.a*19)).k=6
 l:r.2=false->r.1.er=0->(ndR cs (r.1.a*19)).k≠5/\(ndR cs (r.1.a*19)).k≠6
theorem path_end{D:I->I->I×Int}{c:I}{cs:List SV}{len:Nat}(K:OkPg cs len)(hD:∀i,i<len->(ndR cs (i*19)).k=6->rt (D c (pt ((ndR cs (i*19)).f 14))).1=true) :
  ∀(n:Nat)(p:Pst),p.a<n->p.a<len->Er p.er->rt p.s=true->EndP cs len (pathF KkR D c cs n p)
 |0,p,h,_,_,_=>absurd h (by omega)
 | n + 1, p, hn, hl, he, hs => by
   have hnd:=K.nd p.a hl;have hd:=hD p.a hl;unfold pathF;by_cases h0:p.er=0
   ·rw[dT h0,cT];by_cases h5:(ndR cs (p.a*19)).k=5
    ·obtain⟨⟨a0,a1⟩,b0,b1⟩:=okNd_mix hnd h5;rw[dT h5,cT,h0];cases decide (p.s.hi.k<((ndR cs (p.a*19)).f 15).k)
     ·rw[cF];cases decide (p.s.lo.k<((ndR cs (p.a*19)).f 15).k)
      ·exact path_end K hD n _ (by show(ndR cs (p.a*19)).a.toNat<n;omega) (by show(ndR cs (p.a*19)).a.toNat<len;omega) (onN_er hs (dT (Int.le_refl _))) (inb_rt onN_in)
      ·exact path_end K hD n _ (by show(ndR cs (p.a*19)).b.toNat<n;omega) (by show(ndR cs (p.a*19)).b.toNat<len;omega) (onB_er hs (dT (Int.le_refl _))) (inb_rt onB_in)
     ·exact path_end K hD n _ (by show(ndR cs (p.a*19)).b.toNat<n;omega) (by show(ndR cs (p.a*19)).b.toNat<len;omega) (onB_er hs (dT (Int.le_refl _))) (inb_rt onB_in)
    ·rw[dF h5,cF];by_cases h6:(ndR cs (p.a*19)).k=6
     ·obtain⟨a0,a1⟩:=okNd_coat hnd h6;rw[dT h6,cT];cases decide (p.s.hi.k<(D c (pt ((ndR cs (p.a*19)).f 14))).1.lo.k)
      ·rw[cF];cases decide (p.s.lo.k<(D c (pt ((ndR cs (p.a*19)).f 14))).1.hi.k)
       ·rw[cF,h0];exact path_end K hD n _ (by show(ndR cs (p.a*19)).a.toNat<n;omega) (by show(ndR cs (p.a*19)).a.toNat<len;omega) (onN_er hs (hd h6)) (inb_rt onN_in)
       ·exact⟨he,hl,fun _=>⟨h0,h6⟩,(fun h=>by cases h)⟩
      ·exact⟨he,hl,fun _=>⟨h0,h6⟩,(fun h=>by cases h)⟩
     ·rw[dF h6,cF];exact⟨he,hl,(fun h=>by cases h),fun _ _=>⟨h5,h6⟩⟩
   ·rw[dF h0,cF];exact⟨he,hl,(fun h=>by cases h),fun _ h=>absurd h h0⟩
theorem fdD_ok{c:I}(hc:InB c bz1){cs:List SV}{len:Nat}(K:OkPg cs len):paB PaN.D PaN.dO c cs len=true/\∀i,i<len->(ndR cs (i*19)).k=6->rt (PaN.D c (pt ((ndR cs (i*19)).f 14))).1=true:=by
 constructor
 ·refine List.all_eq_true.2 fun i hi=> ?_;have hi':=List.mem_range.1 hi;by_cases h6:(ndR cs (i*19)).k=6
  ·obtain⟨c1,_⟩:=okNd_coatf (K.nd i hi') h6;obtain⟨o,o1,o2⟩:=fd_all hc (bn_of c1);have e1:PaN.D c (pt ((ndR cs (i*19)).f 14))=(o,0):=o1;have e2:Bu.obsB (PaN.dO c (pt ((ndR cs (i*19)).f 14)))=true:=obsB_of (fd_o hc c1);rw[dT h6,cT,e1,e2];rfl
  ·rw[dF h6];rfl
 ·intro i hi h6;obtain⟨c1,_⟩:=okNd_coatf (K.nd i hi) h6;obtain⟨o,o1,o2⟩:=fd_all hc (bn_of c1);have e1:PaN.D c (pt ((ndR cs (i*19)).f 14))=(o,0):=o1;rw[e1];exact o2.rt
def u64P(n:Int):Prop:=0<=n/\n<=18446744073709551615
theorem cosO_ok{c:I}(h:InB c bz1):ObsOk (cosO c):=by have a:=h.2.1;have b:=h.1;have e1:one64.k=bz1.hi.k:=rfl;have e2:z64.k=bz1.lo.k:=rfl;exact ob_c (dF (by omega)) (ob_c (dF (by omega)) (ob_c (inb_rt h) ob_n))
theorem pt_end{c:I}(hc:InB c bz1){cs:List SV}{len:Nat}(K:OkPg cs len){u:Int}(hu:u64P u):EndP cs len (paW PaN c u cs len):=by have h1:=K.lo;exact path_end K (fdD_ok hc K).2 len _ (by show len-1<len;omega) (by show len-1<len;omega) (.inl rfl) (rt_q (unI_U u hu.1 hu.2).rt)
end Go.Proofs.YtejcekikbnlllaaGreat
namespace Bu
open Rx Go
theorem cond_rt:∀{l:List Bu.Op}{v u:List I},(∀a∈v,rt a=true)->CondE l v->Chain l v u->∀a∈u,rt a=true
 | [], v, u, hv, _, hc => by have e:u=v:=hc;subst e;exact hv
 | o :: l, v, u, hv, hc, hh => by
   obtain⟨r,hr,hu⟩:=hh;have h1:=fact_rt hv hc.1 hr;exact cond_rt (fun a ha=>by
    rcases List.mem_cons.1 ha with rfl|ha
    ·exact h1
    ·exact hv a ha) (hc.2 r hr h1) hu
theorem keptIn_{a:I}{l h:F}(hr:rt a=true)(hl:mone64.k<=l.k)(hh:h.k<=one64.k)(lh:l.k<=h.k):In1 (keptI a l h):=by
 obtain⟨e1,e2⟩:=keptI_k a l h;have h1:=oTz hr;refine⟨?_,?_,?_⟩
 ·rw[e1];omega
 ·rw[e2];omega
 ·rw[e1,e2];omega
theorem oz_k:mone64.k<=z64.k/\z64.k<=one64.k/\mone64.k<=one64.k:=by decide+kernel
theorem line_kept{l:List Bu.Op}{s:List Bool}{v:List I}(hc:chk l s=true)(hf:Flags s v)(hv:∀a∈v,rt a=true)(h:(evalK KkR l v 0).2=0){p j:Nat}{lo hi:F}(hp:l.reverse[p]? =some (.kept lo hi j))(hl:mone64.k<=lo.k)(hh:hi.k<=one64.k)(lh:lo.k<=hi.k) :
  In1 (gt (evalK KkR l v 0).1 p)/\lo.k<=(gt (evalK KkR l v 0).1 p).lo.k:=by
 have hr:=cond_rt hv (chk_cond hc hf hv) (eval_chain h).2;have hR:=eval_chainR h;generalize (evalK KkR l v 0).1=u at hr hR ⊢;obtain⟨f,_⟩:=chain_at hR hp;have e:gt u p=keptI (gt (u.drop (p+1)) j) lo hi:=f;rw[e];have r:=gt_rt (fun a ha=>hr a (List.mem_of_mem_drop ha)) (v:=u.drop (p+1)) j;refine⟨keptIn_ r hl hh lh,?_⟩;obtain⟨e1,_⟩:=keptI_k (gt (u.drop (p+1)) j) lo hi;rw[e1];omega
def drFl_:List Bool:=[true,false,false,true,true,false,false]
theorem dr_chk_:chk drP1 drFl_=true/\chk drTa drFl_=true/\chk drTb drFl_=true/\chk drA drFl_=true/\chk drB drFl_=true:=by decide+kernel
theorem re_chk:chk reP [false,false,false,false,false,false]=true:=by decide+kernel
structure AlQ (al:I):Prop where
 lo:minA.k<=al.lo.k
 rt:rt al=true
 hi:al.hi.k<=one64.k
theorem no_flags{v:List I}:Flags [false,false,false,false,false,false] v:=fun i hi=>by
 match i,hi with
 |0,h=>exact absurd h (by decide)
 |1,h=>exact absurd h (by decide)
 |2,h=>exact absurd h (by decide)
 |3,h=>exact absurd h (by decide)
 |4,h=>exact absurd h (by decide)
 |5,h=>exact absurd h (by decide)
 |i+6,h=>exact absurd h (by simp)
def V3rt(v:V3):Prop:=rt v.x=true/\rt v.y=true/\rt v.z=true
structure V3in (v:V3):Prop where
 x:In1 v.x
 y:In1 v.y
 z:In1 v.z
theorem V3in.rt{v:V3}(h:V3in v):V3rt v:=⟨irt h.x,irt h.y,irt h.z⟩
theorem DirP.i{v:V3}(h:DirP v):V3in v:=⟨h.x,h.y,h.zi⟩
theorem re_cases(K:Kk)(v w:V3){P:V3->Prop}(hE:Er (reE K v w).2)(hP:(reE K v w).2=0->P ⟨gt (reE K v w).1 2,gt (reE K v w).1 1,gt (reE K v w).1 0⟩):Er (reR K v w).2/\((reR K v w).2=0->P (reR K v w).1):=by
 unfold reR;cases h:neB (reE K v w).2
 ·rw[cF];exact⟨.inl rfl,fun _=>hP (by unfold neB at h;simpa using h)⟩
 ·rw[cT];refine⟨hE,fun h0=> ?_⟩;simp only at h0;rw[h0]at h;cases h
theorem re_ok{v w:V3}(hv:V3in v)(hw:V3in w):Er (reR KkR v w).2/\((reR KkR v w).2=0->V3in (reR KkR v w).1):=by
 have r:∀a∈ [w.z,w.y,w.x,v.z,v.y,v.x],rt a=true:=fun a ha=>by
  simp only[List.mem_cons,List.not_mem_nil,or_false]at ha;rcases ha with rfl|rfl|rfl|rfl|rfl|rfl
  ·exact irt hw.z
  ·exact irt hw.y
  ·exact irt hw.x
  ·exact irt hv.z
  ·exact irt hv.y
  ·exact irt hv.x
 obtain⟨a,b,c⟩:=oz_k;refine re_cases KkR v w (P:=V3in) (eval_er' re_chk no_flags r) fun h0=> ?_;refine⟨?_,?_,?_⟩
 ·show In1 (gt (evalK KkR reP [w.z,w.y,w.x,v.z,v.y,v.x] 0).1 2);exact(line_kept re_chk no_flags r h0 (p:=2) (j:=2) rfl (Int.le_refl _) (Int.le_refl _) c).1
 ·show In1 (gt (evalK KkR reP [w.z,w.y,w.x,v.z,v.y,v.x] 0).1 1);exact(line_kept re_chk no_flags r h0 (p:=1) (j:=2) rfl (Int.le_refl _) (Int.le_refl _) c).1
 ·show In1 (gt (evalK KkR reP [w.z,w.y,w.x,v.z,v.y,v.x] 0).1 0);exact(line_kept re_chk no_flags r h0 (p:=0) (j:=2) rfl (Int.le_refl _) (Int.le_refl _) c).1
theorem dr_env{v:V3}{al:I}{d e:Int}(hv:DirP v)(ha:AlQ al)(hd:0<=d/\d<=18446744073709551615):(∀a∈drEnv (KqR atR) v al d e,rt a=true)/\Flags drFl_ (drEnv (KqR atR) v al d e):=by
 have hu:=unI_U d hd.1 hd.2;have c:=cosM_in (unI e).lo (unI e).hi;have s:=sinM_in (unI e).lo (unI e).hi;constructor
 ·intro a h;simp only[drEnv,List.mem_cons,List.not_mem_nil,or_false]at h;rcases h with rfl|rfl|rfl|rfl|rfl|rfl|rfl
  ·exact rt_q hu.rt
  ·exact irt c
  ·exact irt s
  ·exact ha.rt
  ·exact irt hv.zi
  ·exact irt hv.y
  ·exact irt hv.x
 ·intro i hi
  match i,hi with
  |0,_=>exact hu.lo
  |1,h=>exact absurd h (by decide)
  |2,h=>exact absurd h (by decide)
  | 3, _ =>
    have h1:=q_le.2 ha.lo;have h2:0<=minA.q:=by have:minA.q*32=1:=q_of' (n:=1) (s:=5) (by decide+kernel) rfl;grind
    exact Rat.le_trans h2 h1
  | 4, _ =>
    have h1:=q_le.2 hv.z.1;have h2:z64.q=0:=zero0_q;show 0<=v.z.lo.q;have h3:z64.q<=v.z.lo.q:=h1;rw[h2]at h3;exact h3
  |5,h=>exact absurd h (by decide)
  |6,h=>exact absurd h (by decide)
  |i+7,h=>exact absurd h (by simp[drFl_])
theorem drX_c{K:Kk}{p1 p2:List Bu.Op}{v:List I}{P:V3->Prop}(h1:Er (evalK K p1 v 0).2)(h2:Er (evalK K p2 v 0).2)(hP:(evalK K p2 v 0).2=0->P (drV K p2 v)):Er (drX K p1 p2 v).2/\((drX K p1 p2 v).2=0->P (drX K p1 p2 v).1):=by
 unfold drX;cases e1:neB (evalK K p1 v 0).2
 ·rw[cF];cases e2:neB (evalK K p2 v 0).2
  ·rw[cF];exact⟨.inl rfl,fun _=>hP (by unfold neB at e2;simpa using e2)⟩
  ·rw[cT];refine⟨h2,fun h0=> ?_⟩;simp only at h0;rw[h0]at e2;cases e2
 ·rw[cT];refine⟨h1,fun h0=> ?_⟩;simp only at h0;rw[h0]at e1;cases e1
theorem drR_c{K:Kk}{v:List I}{P:V3->Prop}(h1:Er (evalK K drP1 v 0).2)(h2:Er (evalK K drTa v 0).2)(h3:Er (evalK K drTb v 0).2)(h4:Er (evalK K drA v 0).2)(h5:Er (evalK K drB v 0).2)
  (hA:(evalK K drA v 0).2=0->P (drV K drA v)) (hB:(evalK K drB v 0).2=0->P (drV K drB v)):Er (drR K v).2/\((drR K v).2=0->P (drR K v).1):=by
 unfold drR;cases decide ((drQ K v).hi.k=z64.k)
 ·cases decide (z64.k<(drQ K v).lo.k)
  ·rw[cF,cF];unfold drN;cases e1:neB (evalK K drP1 v 0).2
   ·rw[cF];exact⟨.inr (.inr rfl),fun h0=>by simp only at h0;exact absurd h0 (by decide)⟩
   ·rw[cT];refine⟨h1,fun h0=> ?_⟩;simp only at h0;rw[h0]at e1;cases e1
  ·rw[cF,cT];exact drX_c h3 h5 hB
 ·rw[cT];exact drX_c h2 h4 hA
theorem vd_ok{v:V3}{al:I}{d e:Int}(hv:DirP v)(ha:AlQ al)(hd:0<=d/\d<=18446744073709551615):Er (drR KkR (drEnv (KqR atR) v al d e)).2/\((drR KkR (drEnv (KqR atR) v al d e)).2=0->DirP (drR KkR (drEnv (KqR atR) v al d e)).1):=by
 obtain⟨r,f⟩:=dr_env (e:=e) hv ha hd;obtain⟨c1,c2,c3,c4,c5⟩:=dr_chk_;obtain⟨a,b,c⟩:=oz_k;generalize drEnv (KqR atR) v al d e=w at r f ⊢;refine drR_c (P:=DirP) (eval_er' c1 f r) (eval_er' c2 f r) (eval_er' c3 f r) (eval_er' c4 f r) (eval_er' c5 f r) (fun h0=> ?_) (fun h0=> ?_)
 ·obtain⟨z1,z2⟩:=line_kept c4 f r h0 (p:=0) (j:=2) rfl a (Int.le_refl _) b;refine⟨?_,?_,⟨z2,z1.hi,z1.rt⟩⟩
  ·show In1 (gt (evalK KkR drA w 0).1 2);exact(line_kept c4 f r h0 (p:=2) (j:=2) rfl (Int.le_refl _) (Int.le_refl _) c).1
  ·show In1 (gt (evalK KkR drA w 0).1 1);exact(line_kept c4 f r h0 (p:=1) (j:=2) rfl (Int.le_refl _) (Int.le_refl _) c).1
 ·obtain⟨z1,z2⟩:=line_kept c5 f r h0 (p:=0) (j:=2) rfl a (Int.le_refl _) b;refine⟨?_,?_,⟨z2,z1.hi,z1.rt⟩⟩
  ·show In1 (gt (evalK KkR drB w 0).1 2);exact(line_kept c5 f r h0 (p:=2) (j:=2) rfl (Int.le_refl _) (Int.le_refl _) c).1
  ·show In1 (gt (evalK KkR drB w 0).1 1);exact(line_kept c5 f r h0 (p:=1) (j:=2) rfl (Int.le_refl _) (Int.le_refl _) c).1
end Bu
