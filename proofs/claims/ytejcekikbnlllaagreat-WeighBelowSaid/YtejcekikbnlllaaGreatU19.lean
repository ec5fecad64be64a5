/- The draws, plain: what is drawn of a right program. What is drawn and weighed, of any .. -/
import Derived.Test.YtejcekikbnlllaaGreatU18
set_option linter.all false
open Go.Proofs.Tryz(prog)
namespace Go.Proofs.YtejcekikbnlllaaGreat
open Go.RowKit Bu Rx
theorem cos_rt{u1 u2:Int}(h:u64P u1):V3rt (dwCos DwN u1 u2):=by
 obtain⟨D,hD⟩:=draw_ok (b:=u2) h.1 h.2;refine⟨?_,?_,?_⟩
 ·show rt (keptI (dX (KqR atR) u1 u2).1 mone64 one64)=true;rw[hD.ex];exact keptI_rt hD.mx.rt
 ·show rt (keptI (dY (KqR atR) u1 u2).1 mone64 one64)=true;rw[hD.ey];exact keptI_rt hD.my.rt
 ·show rt (keptI (dZ (KqR atR) u1 u2).1 (toF 0) one64)=true;rw[hD.ez];exact keptI_rt (rt_q hD.zu.rt)
theorem leaf_al{nd:Nd}{p:Int}(h:okNd nd p=true)(h5:nd.k≠5)(h6:nd.k≠6)(h1:nd.k≠1)(h2:nd.k≠2):AlQ (pt (nd.f 13)):=by
 have o:=nd_leaf h h5 h6;have r:Rn minA one64 (nd.f 13):=by
  rcases rt_kind o with e|e|e|e
  ·exact absurd e h1
  ·exact absurd e h2
  ·rw[e]at o;exact(rt3_in o).1
  ·rw[e]at o;exact(rt4_in o (c:=0) (by decide)).1
 exact⟨r.1,dT (Int.le_refl _),r.2⟩
theorem in1O_ok{a:I}(h:In1 a):ObsOk (in1O a):=ob_c (dT h.hi) (ob_c (dT h.lo) (ob_c (irt h) ob_n))
theorem reO_ok{v w:V3}(hv:V3in v)(hw:V3in w):ObsOk (reO v w):=ob_a (in1O_ok hw.z) (ob_a (in1O_ok hw.y) (ob_a (in1O_ok hw.x) (ob_a (in1O_ok hv.z) (ob_a (in1O_ok hv.y) (in1O_ok hv.x)))))
theorem dirQ{v:V3}(h:DirP v):ObsOk (dirO v):=by have z1:z64.k<=v.z.lo.k:=h.z.1;have z2:v.z.hi.k<=one64.k:=h.z.2.1;exact ob_c (dT z2) (ob_c (dT z1) (ob_c (dT h.y.hi) (ob_c (dT h.y.lo) (ob_c (dT h.x.hi) (ob_c (dT h.x.lo) (ob_c (inb_rt h.z) (ob_c (irt h.y) (ob_c (irt h.x) ob_n))))))))
theorem uP{u:Int}(h:u64P u):decide (0<=u/\u<=18446744073709551615)=true:=dT h
theorem bx_ok{nd:Nd}{p:Int}(hnd:okNd nd p=true)(h5:nd.k≠5)(h6:nd.k≠6){v:V3}(hv:DirP v){u1 u2:Int}(k1:u64P u1)(k2:u64P u2) :
  ObsOk (bxO DwN nd v u1 u2)/\Er (bxF DwN nd v u1 u2).2/\((bxF DwN nd v u1 u2).2=0->V3rt (bxF DwN nd v u1 u2).1):=by
 unfold bxO bxF;by_cases e:nd.k=1\/nd.k=2
 ·have ee:(decide (nd.k=1)||decide (nd.k=2))=true:=by rcases e with e|e<;>rw[dT e]<;>simp
  rw[ee,cT,cT];exact⟨ob_c (uP k1) (ob_c (uP k2) ob_n),.inl rfl,fun _=>cos_rt k1⟩
 ·have ee:(decide (nd.k=1)||decide (nd.k=2))=false:=by rw[dF (fun h=>e (.inl h)),dF (fun h=>e (.inr h))];rfl
  rw[ee,cF,cF];have al:=leaf_al hnd h5 h6 (fun h=>e (.inl h)) (fun h=>e (.inr h));have hO:ObsOk (DwN.vo v (pt (nd.f 13)) u1 u2++ [(decide ((nd.f 13).k<=one64.k),true)]):=by have a1:(nd.f 13).k<=one64.k:=al.hi;have a2:minA.k<=(nd.f 13).k:=al.lo;refine ob_a ?_ (ob_c (dT a1) ob_n);exact ob_a (ob_a (ob_c (uP k1) (ob_c (unI_in u2 k2.1 k2.2) (ob_c (uP k2) ob_n))) (dirQ hv)) (ob_c (dT a1) (ob_c (dT a2) (ob_c al.rt ob_n)))
  have hd:=vd_ok (e:=u2) hv al k1;have hd':Er (dwN DwN v (nd.f 13) u1 u2).2/\((dwN DwN v (nd.f 13) u1 u2).2=0->DirP (dwN DwN v (nd.f 13) u1 u2).1):=hd;clear hd;generalize dwN DwN v (nd.f 13) u1 u2=n at hd' ⊢;obtain⟨d1,d2⟩:=hd';by_cases g:n.2=0
  ·rw[dT g,cT,cT];have r:=re_ok hv.i (d2 g).i;have r':Er (DwN.re v n.1).2/\((DwN.re v n.1).2=0->V3in (DwN.re v n.1).1):=r;exact⟨ob_a hO (reO_ok hv.i (d2 g).i),r'.1,fun h=>(r'.2 h).rt⟩
  ·rw[dF g,cF,cF];exact⟨ob_a hO ob_n,d1,fun h=>absurd h g⟩
theorem rt3_ok{b:V3}(h:V3rt b):dwMp DwN b=true:=by show rt3 b.x.lo b.x.hi b.y.lo b.y.hi b.z.lo b.z.hi=true;have h1:rt ⟨b.x.lo,b.x.hi⟩=true:=h.1;have h2:rt ⟨b.y.lo,b.y.hi⟩=true:=h.2.1;have h3:rt ⟨b.z.lo,b.z.hi⟩=true:=h.2.2;unfold rt3;rw[h1,h2,h3];rfl
def InK(a:I)(y:F):Prop:=a.lo.k<=y.k/\y.k<=a.hi.k
theorem mid_in_{a:I}(h:rt a=true):InK a (midI a.lo a.hi):=by obtain⟨_,_,_,h1,h2⟩:=mid_no (a:=a.lo) (b:=a.hi) h;exact⟨q_le.1 h1,q_le.1 h2⟩
theorem mid3{b:V3}(h:V3rt b):InK b.x (dwMid DwN b).1/\InK b.y (dwMid DwN b).2.1/\InK b.z (dwMid DwN b).2.2:=⟨mid_in_ h.1,mid_in_ h.2.1,mid_in_ h.2.2⟩
structure DwP_ (cs:List SV) (len:Nat) (x y z:F) (u0:Int) (r:DwR):Prop where
 er:Er r.e
 no:r.e≠0->r=dwZ r.e
 a:r.e=0->0<=r.a/\r.a<len/\r.a=(dwP DwN cs len x y z u0).a/\r.s=(dwP DwN cs len x y z u0).s
 m:r.e=0->(dwP DwN cs len x y z u0).g=true->r=⟨1,(x.neg,y.neg,z),dwMir DwN x y z,(dwP DwN cs len x y z u0).a,(dwP DwN cs len x y z u0).s,0⟩/\(ndR cs (r.a.toNat*19)).k=6
 l:r.e=0->(dwP DwN cs len x y z u0).g=false->(ndR cs (r.a.toNat*19)).k≠5/\(ndR cs (r.a.toNat*19)).k≠6/\((r.k=0/\r.p=z3/\r.b=zV)\/(r.k=2/\unB r.p.1 r.p.2.1 r.p.2.2=true/\z64.k<r.p.2.2.k/\InK r.b.x r.p.1/\InK r.b.y r.p.2.1/\InK r.b.z r.p.2.2))
theorem pa_res{cs:List SV}{len:Nat}{r:Pst×Bool}(h:EndP cs len r):Er (paRes r).e/\((paRes r).e≠0->(paRes r).g=false)/\((paRes r).e=0->0<=(paRes r).a/\(paRes r).a<len/\((paRes r).g=true->(ndR cs ((paRes r).a.toNat*19)).k=6)/\((paRes r).g=false->(ndR cs ((paRes r).a.toNat*19)).k≠5/\(ndR cs ((paRes r).a.toNat*19)).k≠6)):=by
 unfold paRes;by_cases he:r.1.er=0
 ·rw[dT he,cT];have ha:=h.a;exact⟨.inl rfl,fun h=>absurd rfl h,fun _=>⟨by show(0:Int)<=(r.1.a:Int);omega,by show(r.1.a:Int)<len;omega,fun g=>(h.g g).2,fun g=>h.l g he⟩⟩
 ·rw[dF he,cF];exact⟨h.er,fun _=>rfl,fun h=>absurd h he⟩
theorem dw_ok{cs:List SV}{len:Nat}(hl:cs.length=len*19)(hok:okPg cs len=true){x y z:F}(hB:unB x y z=true)(hz:z64.k<z.k)(hv:DirP (unV KkR x y z)){u0 u1 u2:Int}(k0:u64P u0)(k1:u64P u1)(k2:u64P u2) :
  ObsOk (dwOb DwN cs len x y z u0 u1 u2)/\DwP_ cs len x y z u0 (dwF DwN cs len x y z u0 u1 u2):=by
 have K:=okPg_ok hok;have hb:DwN.ub x y z=true:=hB;have gz:¬z.k<=z64.k:=by omega
 have E:=pa_res (pt_end hv.z K k0);have EP:dwP DwN cs len x y z u0=paRes (paW PaN (unV KkR x y z).z u0 cs len):=rfl;rw[<-EP]at E;clear EP;have hbx:∀{nd:Nd}{p:Int},okNd nd p=true->nd.k≠5->nd.k≠6->ObsOk (bxO DwN nd (DwN.un x y z) u1 u2)/\Er (bxF DwN nd (DwN.un x y z) u1 u2).2/\((bxF DwN nd (DwN.un x y z) u1 u2).2=0->V3rt (bxF DwN nd (DwN.un x y z) u1 u2).1):=fun a b c=>bx_ok a b c hv k1 k2;unfold dwOb dwF;rw[hb,cT,cT,dF gz,cF,cF];obtain⟨e1,e2,e3⟩:=E;have hpre:∀{o:Obs},ObsOk o->ObsOk ((decide (cs.length=len*19),true)::(DwN.T.o cs len,true)::(DwN.T.b (DwN.un x y z).z cs len,true)::(DwN.T.u u0,true)::(cosO (DwN.un x y z).z++o)):=fun ho=>ob_c (dT hl) (ob_c hok (ob_c (fdD_ok hv.z K).1 (ob_c (uP k0) (ob_a (cosO_ok hv.z) ho))));generalize hP:dwP DwN cs len x y z u0=P at e1 e2 e3 ⊢;by_cases ge:P.e=0
 ·obtain⟨a0,a1,ag,al⟩:=e3 ge;rw[dT ge,cT,cT];cases gg:P.g
  ·rw[cF,cF];obtain⟨l5,l6⟩:=al gg;have hnd:=K.nd P.a.toNat (by omega);obtain⟨o1,o2,o3⟩:=hbx hnd l5 l6;generalize bxF DwN (ndR cs (P.a.toNat*19)) (DwN.un x y z) u1 u2=b at o2 o3 ⊢;by_cases gb:b.2=0
   ·rw[dT gb,cT,cT];refine⟨hpre (ob_c (dT ⟨a0,a1⟩) (ob_a o1 (ob_c (rt3_ok (o3 gb)) ob_n))),?_⟩;obtain⟨m1,m2,m3⟩:=mid3 (o3 gb);unfold dwLf;cases gw:DwN.ub (dwMid DwN b.1).1 (dwMid DwN b.1).2.1 (dwMid DwN b.1).2.2&& !decide ((dwMid DwN b.1).2.2.k<=z64.k)
    ·rw[cF];exact⟨.inl rfl,fun h=>absurd rfl h,fun _=>⟨a0,a1,by rw[hP],by rw[hP]⟩,(fun _ h=>by rw[hP,gg]at h;cases h),fun _ _=>⟨l5,l6,.inl ⟨rfl,rfl,rfl⟩⟩⟩
    ·rw[cT];rw[aTz]at gw;obtain⟨w1,w2⟩:=gw;have w3:¬(dwMid DwN b.1).2.2.k<=z64.k:=by simpa using w2
     exact⟨.inl rfl,fun h=>absurd rfl h,fun _=>⟨a0,a1,by rw[hP],by rw[hP]⟩,(fun _ h=>by rw[hP,gg]at h;cases h),fun _ _=>⟨l5,l6,.inr ⟨rfl,w1,by show z64.k<(dwMid DwN b.1).2.2.k;omega,m1,m2,m3⟩⟩⟩
   ·rw[dF gb,cF,cF];exact⟨hpre (ob_c (dT ⟨a0,a1⟩) (ob_a o1 ob_n)),⟨o2,fun _=>rfl,fun h=>absurd h gb,fun h=>absurd h gb,fun h=>absurd h gb⟩⟩
  ·rw[cT,cT];exact⟨hpre ob_n,⟨.inl rfl,fun h=>absurd rfl h,fun _=>⟨a0,a1,by rw[hP],by rw[hP]⟩,fun _ _=>⟨by rw[hP],ag gg⟩,(fun _ h=>by rw[hP,gg]at h;cases h)⟩⟩
 ·rw[dF ge,cF,cF];exact⟨hpre (ob_c (e2 ge) ob_n),⟨e1,fun _=>rfl,fun h=>absurd h ge,fun h=>absurd h ge,fun h=>absurd h ge⟩⟩
theorem un_ng(X Y Z:F):unB X.neg Y.neg Z=unB X Y Z:=by have e:∀W:F,W.neg.abs=W.abs:=fun W=>F.ext' (by show((W.neg.k.natAbs:Nat):Int)=(W.k.natAbs:Nat);rw[F.neg_k];omega);unfold unB mostF;rw[e,e]
theorem wgOkF_0{cs:List SV}{len:Nat}{x y z a b c:F}{m:Bool}(h:(wgOkF WgN cs len x y z a b c m).e=0):wgEe WgN cs len x y z a b c=0/\wgDe WgN cs len x y z a b c=0/\(∀j,j<3->(wgK WgN cs len x y z a b c m j).2=0)/\wgOkF WgN cs len x y z a b c m=⟨fun j=>(wgK WgN cs len x y z a b c m j).1,wgC WgN cs len x y z a b c,0⟩:=by
 have zr:∀e:Int,(wgZr e).e=e:=fun _=>rfl;unfold wgOkF at h ⊢;by_cases e1:wgEe WgN cs len x y z a b c=0
 ·rw[dT e1,cT]at h ⊢;by_cases e2:wgDe WgN cs len x y z a b c=0
  ·rw[dT e2,cT]at h ⊢;unfold wgCo at h ⊢;by_cases c0:(wgK WgN cs len x y z a b c m 0).2=0
   ·rw[dT c0,cT]at h ⊢;by_cases c1:(wgK WgN cs len x y z a b c m 1).2=0
    ·rw[dT c1,cT]at h ⊢;by_cases c2:(wgK WgN cs len x y z a b c m 2).2=0
     ·rw[dT c2,cT]at h ⊢;refine⟨e1,e2,fun j hj=> ?_,rfl⟩;rcases (by omega:j=0\/j=1\/j=2)with rfl|rfl|rfl
      ·exact c0
      ·exact c1
      ·exact c2
     ·rw[dF c2,cF,zr]at h;exact absurd h c2
    ·rw[dF c1,cF,zr]at h;exact absurd h c1
   ·rw[dF c0,cF,zr]at h;exact absurd h c0
  ·rw[dF e2,cF,zr]at h;exact absurd h e2
 ·rw[dF e1,cF,zr]at h;exact absurd h e1
structure WgD (cs:List SV) (len:Nat) (x y z:F) (m:Bool) (a b c:F) (w:Nat->I) (t:Ch):Prop where
 u:unB a b c=true
 up:z64.k<c.k
 e:evE NeR (unV KkR a b c) (unV KkR x y z) cs len=0
 d:daE NdR (unV KkR x y z).z (lfR (dnG4 GmR) (unV KkR a b c) (unV KkR x y z)) cs len=0
 k:∀j,j<3->(wgK WgN cs len x y z a b c m j).2=0
 w:w=fun j=>(wgK WgN cs len x y z a b c m j).1
 t:t=wgC WgN cs len x y z a b c
structure SmP (cs:List SV) (len:Nat) (x y z:F) (r:SmR) (t:WgR):Prop where
 er:Er r.e
 no:r.e≠0->r=smZr r.e
 f:r.e=0->r.d.k=0\/r.d.k=1\/r.d.k=2
 f0:r.e=0->r.d.k=0->r.w=fun _=>zI
 f1:r.e=0->r.d.k=1->r.d.p=(x.neg,y.neg,z)/\WgD cs len x y z true x.neg y.neg z r.w t.x
 f2:r.e=0->r.d.k=2->WgD cs len x y z false r.d.p.1 r.d.p.2.1 r.d.p.2.2 r.w t.x
theorem sm_ok{cs:List SV}{len:Nat}(hl:cs.length=len*19)(hok:okPg cs len=true){x y z:F}(hB:unB x y z=true)(hz:z64.k<z.k){u0 u1 u2:Int}(k0:u64P u0)(k1:u64P u1)(k2:u64P u2) :
  ObsOk (smO SmN cs len x y z u0 u1 u2)/\SmP cs len x y z (smF SmN cs len x y z u0 u1 u2) (smT SmN cs len x y z u0 u1 u2):=by
 have K:=okPg_ok hok;obtain⟨vc,hvc⟩:=K.pl;have wu:DirP (unV KkR x y z):=⟨(un_in hz).1,(un_in hz).2.1,(un_in hz).2.2⟩;obtain⟨dO,dP⟩:=dw_ok hl hok hB hz wu k0 k1 k2;have eD:smD SmN cs len x y z u0 u1 u2=dwF DwN cs len x y z u0 u1 u2:=rfl;have eT:smT SmN cs len x y z u0 u1 u2=WtR.g cs len x y z (dwF DwN cs len x y z u0 u1 u2).k (dwF DwN cs len x y z u0 u1 u2).p.1.b (dwF DwN cs len x y z u0 u1 u2).p.2.1.b (dwF DwN cs len x y z u0 u1 u2).p.2.2.b:=rfl;have eTo:smTo SmN cs len x y z u0 u1 u2=WtR.o cs len x y z (dwF DwN cs len x y z u0 u1 u2).k (dwF DwN cs len x y z u0 u1 u2).p.1.b (dwF DwN cs len x y z u0 u1 u2).p.2.1.b (dwF DwN cs len x y z u0 u1 u2).p.2.2.b:=rfl;have zr:∀e:Int,(wgZr e).e=e:=fun _=>rfl;have head:∀{o:Obs},ObsOk o->ObsOk ((decide (cs.length=len*19),true)::((plains cs).isSome,true)::(SmN.D.o cs len x y z u0 u1 u2++o)):=fun h=>ob_c (dT hl) (ob_c (by rw[hvc];rfl) (ob_a dO h));unfold smO smF;rw[eD,eTo];by_cases de:(dwF DwN cs len x y z u0 u1 u2).e=0
 ·rw[dT de,cT,cT]
  -- what weighing tells of a direction
  have dir:∀(m:Bool)(k:Int)(a b c:F),wgF WgN cs len x y z k a b c=wgOkF WgN cs len x y z a b c m->(k==0)=false->unB a b c=true->z64.k<c.k->ObsOk (WtR.o cs len x y z k a.b b.b c.b)/\Er (WtR.g cs len x y z k a.b b.b c.b).e/\((WtR.g cs len x y z k a.b b.b c.b).e=0->WgD cs len x y z m a b c (WtR.g cs len x y z k a.b b.b c.b).w (WtR.g cs len x y z k a.b b.b c.b).x):=by
   intro m k a b c hF hk ha hc;rcases wgOkF_er K hB hz ha hc m with⟨e1,e2,e3⟩|h|h
   ·rw[wgt_F,hF];refine⟨wgo_F hl hok ?_,e1,fun h0=> ?_⟩
    ·cases unB x y z&&((!(k==0))&&(wgIs WgN x y z k a b c true||wgIs WgN x y z k a b c false))
     ·exact ob_n
     ·exact e3
    ·obtain⟨q1,q2,q3,q4⟩:=wgOkF_0 h0;rw[q4];exact⟨ha,hc,q1,q2,q3,rfl,rfl⟩
   ·exact absurd hl h
   ·rw[hok]at h;cases h
  have iE:∀{a b c:F},unB a b c=true->wgE WgN a b c=0:=fun{a b c}h=>by show(bif unB a b c then 0 else 50)=(0:Int);rw[h,cT]
  have fin:∀{k:Int}{m:Bool},(dwF DwN cs len x y z u0 u1 u2).k=k->(k=1/\m=true/\(dwF DwN cs len x y z u0 u1 u2).p=(x.neg,y.neg,z)\/k=2/\m=false)->ObsOk (WtR.o cs len x y z k (dwF DwN cs len x y z u0 u1 u2).p.1.b (dwF DwN cs len x y z u0 u1 u2).p.2.1.b (dwF DwN cs len x y z u0 u1 u2).p.2.2.b)->Er (WtR.g cs len x y z k (dwF DwN cs len x y z u0 u1 u2).p.1.b (dwF DwN cs len x y z u0 u1 u2).p.2.1.b (dwF DwN cs len x y z u0 u1 u2).p.2.2.b).e->((WtR.g cs len x y z k (dwF DwN cs len x y z u0 u1 u2).p.1.b (dwF DwN cs len x y z u0 u1 u2).p.2.1.b (dwF DwN cs len x y z u0 u1 u2).p.2.2.b).e=0->WgD cs len x y z m (dwF DwN cs len x y z u0 u1 u2).p.1 (dwF DwN cs len x y z u0 u1 u2).p.2.1 (dwF DwN cs len x y z u0 u1 u2).p.2.2 (WtR.g cs len x y z k (dwF DwN cs len x y z u0 u1 u2).p.1.b (dwF DwN cs len x y z u0 u1 u2).p.2.1.b (dwF DwN cs len x y z u0 u1 u2).p.2.2.b).w (WtR.g cs len x y z k (dwF DwN cs len x y z u0 u1 u2).p.1.b (dwF DwN cs len x y z u0 u1 u2).p.2.1.b (dwF DwN cs len x y z u0 u1 u2).p.2.2.b).x)->
    ObsOk ((decide (cs.length=len*19),true)::((plains cs).isSome,true)::(SmN.D.o cs len x y z u0 u1 u2++WtR.o cs len x y z (dwF DwN cs len x y z u0 u1 u2).k (dwF DwN cs len x y z u0 u1 u2).p.1.b (dwF DwN cs len x y z u0 u1 u2).p.2.1.b (dwF DwN cs len x y z u0 u1 u2).p.2.2.b))/\SmP cs len x y z (bif decide ((smT SmN cs len x y z u0 u1 u2).e=0)then⟨dwF DwN cs len x y z u0 u1 u2,(smT SmN cs len x y z u0 u1 u2).w,0⟩else smZr (smT SmN cs len x y z u0 u1 u2).e) (smT SmN cs len x y z u0 u1 u2):=by
   intro k m hk hm h1 h2 h3;rw[eT,hk];generalize WtR.g cs len x y z k _ _ _=t at h2 h3 ⊢;refine⟨head h1,?_⟩;by_cases te:t.e=0
   ·rw[dT te,cT];have hd:=h3 te;refine⟨.inl rfl,fun h=>absurd rfl h,fun _=> ?_,fun _ h=> ?_,fun _ h=> ?_,fun _ h=> ?_⟩
    ·rcases hm with⟨h,_⟩|⟨h,_⟩
     ·exact .inr (.inl (hk.trans h))
     ·exact .inr (.inr (hk.trans h))
    ·have h':(dwF DwN cs len x y z u0 u1 u2).k=0:=h;rcases hm with⟨g,_⟩|⟨g,_⟩<;>omega
    ·have h':(dwF DwN cs len x y z u0 u1 u2).k=1:=h;rcases hm with⟨_,rfl,g⟩|⟨g,_⟩
     ·rw[g]at hd;exact⟨g,hd⟩
     ·omega
    ·have h':(dwF DwN cs len x y z u0 u1 u2).k=2:=h;rcases hm with⟨g,_⟩|⟨_,rfl⟩
     ·omega
     ·exact hd
   ·rw[dF te,cF];exact⟨h2,fun _=>rfl,fun h=>absurd h te,fun h=>absurd h te,fun h=>absurd h te,fun h=>absurd h te⟩
  cases hg:(dwP DwN cs len x y z u0).g
  ·obtain⟨_,_,h|⟨hk,ha,hc,_⟩⟩:=dP.l de hg
   ·obtain⟨hk,_⟩:=h;have hF:wgF WgN cs len x y z 0 (dwF DwN cs len x y z u0 u1 u2).p.1 (dwF DwN cs len x y z u0 u1 u2).p.2.1 (dwF DwN cs len x y z u0 u1 u2).p.2.2=wgZr 0:=by unfold wgF;rw[show WgN.ub x y z=true from hB,cT];rfl
    have hO:ObsOk (WtR.o cs len x y z 0 (dwF DwN cs len x y z u0 u1 u2).p.1.b (dwF DwN cs len x y z u0 u1 u2).p.2.1.b (dwF DwN cs len x y z u0 u1 u2).p.2.2.b):=wgo_F hl hok (by rw[show((0:Int)==0)=true from rfl,Bool.not_true,Bool.false_and,Bool.and_false,cF];exact ob_n);rw[eT,hk,wgt_F,hF];refine⟨head hO,?_⟩;rw[zr,dT rfl,cT];refine⟨.inl rfl,fun h=>absurd rfl h,fun _=> .inl hk,fun _ _=>rfl,fun _ h=> ?_,fun _ h=> ?_⟩
    ·have h':(dwF DwN cs len x y z u0 u1 u2).k=1:=h;omega
    ·have h':(dwF DwN cs len x y z u0 u1 u2).k=2:=h;omega
   ·have i1:wgIs WgN x y z 2 (dwF DwN cs len x y z u0 u1 u2).p.1 (dwF DwN cs len x y z u0 u1 u2).p.2.1 (dwF DwN cs len x y z u0 u1 u2).p.2.2 true=false:=rfl;have i2:wgIs WgN x y z 2 (dwF DwN cs len x y z u0 u1 u2).p.1 (dwF DwN cs len x y z u0 u1 u2).p.2.1 (dwF DwN cs len x y z u0 u1 u2).p.2.2 false=true:=by show((2:Int)==2&&(wgE WgN _ _ _==0&&(decide ((toF 0).k<_)&&decide ((toF 0).k<z.k))))=true;rw[iE ha,dT (show(toF 0).k<z.k from hz),dT (show(toF 0).k<(dwF DwN cs len x y z u0 u1 u2).p.2.2.k from hc)];rfl
    obtain⟨q1,q2,q3⟩:=dir false 2 _ _ _ (by unfold wgF;rw[show WgN.ub x y z=true from hB,cT,show((2:Int)==0)=false from rfl,cF,i1,cF,i2,cT]) rfl ha hc;exact fin hk (.inr ⟨rfl,rfl⟩) q1 q2 q3
  ·obtain⟨h,_⟩:=dP.m de hg;have hk:(dwF DwN cs len x y z u0 u1 u2).k=1:=by rw[h]
   have hp:(dwF DwN cs len x y z u0 u1 u2).p=(x.neg,y.neg,z):=by rw[h]
   have ha:unB x.neg y.neg z=true:=by rw[un_ng];exact hB
   have i1:wgIs WgN x y z 1 x.neg y.neg z true=true:=by show((1:Int)==1&&(wgE WgN _ _ _==0&&(eqP (x.neg,y.neg,z) (x.neg,y.neg,z)&&decide ((toF 0).k<z.k))))=true;unfold eqP;rw[iE ha,dT rfl,dT rfl,dT rfl,dT (show(toF 0).k<z.k from hz)];rfl
   obtain⟨q1,q2,q3⟩:=dir true 1 x.neg y.neg z (by unfold wgF;rw[show WgN.ub x y z=true from hB,cT,show((1:Int)==0)=false from rfl,cF,i1,cT]) rfl ha hz;refine fin hk (.inl ⟨rfl,rfl,hp⟩) ?_ ?_ ?_
   ·rw[hp];exact q1
   ·rw[hp];exact q2
   ·rw[hp];exact q3
 ·rw[dF de,cF,cF];refine⟨head ob_n,dP.er,fun _=>rfl,fun h=>absurd h de,fun h=>absurd h de,fun h=>absurd h de,fun h=>absurd h de⟩
theorem quo_w{B f p:Rat}{A C w:I}(h:KkR.div 0 A C=(w,0))(ra:rt A=true)(rc:rt C=true)(a0:0<=A.lo.q)(c0:0<=C.lo.q)(hf:Mem A f)(hp:Mem C p)(hfp:f<=B*p):rt w=true/\0<=w.lo.q/\w.lo.q<=B:=by
 have ff:=div_fc h;have r:=AllR.rt (show AllR w _ _ _ _ from ff.2);have n:=fact_nn (s:=[true,true]) (rts2 ra rc) (fl_2 a0 c0) ff rfl;have np:0<p:=by
  have hz:hasB C F.zero=false:=ff.1;by_cases g:0<p
  ·exact g
  ·exfalso
   have l:=hp.lo;have u:=hp.hi;have e:p=0:=by grind
   have e2:hasB C F.zero=true:=by unfold hasB;rw[rc,dT (q_le.1 (by rw[q_zero];grind)),dT (q_le.1 (by rw[q_zero];grind))];rfl
   rw[e2]at hz;cases hz
 have k:=(div_pt h hf hp).lo;exact⟨r,n,Rat.le_trans k (quo_le np hfp)⟩
theorem wg_bd{B:Rat}(hB:1<=B){cs:List SV}{len:Nat}{x y z a b c:F}{m:Bool}{w:Nat->I}{t:Ch}(h:WgD cs len x y z m a b c w t)(hu:OneP (unV KkR x y z))(K:OkPg cs len)(hOr:∀i,i<len->(ndR cs (i*19)).k=2->1555/1000<=B) :
  ∀j,j<3->rt (w j)=true/\0<=(w j).lo.q/\(w j).lo.q<=B/\(m=true->(w j).lo.q<=1):=by
 intro j hj;have hlo:=K.lo;have wv:Wd (unV KkR a b c):=⟨(un_in h.up).1,(un_in h.up).2.1,(un_in h.up).2.2⟩;obtain⟨L,M⟩:=wb_node hB wv hu K hOr h.e h.d hj (len-1) (by omega);have e1:wgL WgN cs len x y z a b c j=ltF NeR (unV KkR a b c) (unV KkR x y z) cs j (len-1):=by show eeC NeR (unV KkR a b c) (unV KkR x y z) cs len j=_;unfold eeC;rw[h.e,dT rfl,cT]
 have e2:wgC WgN cs len x y z a b c=chF (allF NdR (unV KkR x y z).z (lfR (dnG4 GmR) (unV KkR a b c) (unV KkR x y z)) cs) (len-1):=by show daC NdR (unV KkR x y z).z (lfR (dnG4 GmR) (unV KkR a b c) (unV KkR x y z)) cs len=_;unfold daC;rw[h.d,dT rfl,cT];rfl
 have e3:(wgV WgN a b c).z=(unV KkR a b c).z:=by show(bif unB a b c then unV KkR a b c else V3.zero).z=_;rw[h.u,cT]
 have hk:=h.k j hj;have hw:w j=(wgK WgN cs len x y z a b c m j).1:=by rw[h.w]
 rw[hw];unfold wgK at hk ⊢;rw[e1,e2,e3]at hk ⊢;generalize ltF NeR (unV KkR a b c) (unV KkR x y z) cs j (len-1)=l at L M hk ⊢;generalize chF (allF NdR (unV KkR x y z).z (lfR (dnG4 GmR) (unV KkR a b c) (unV KkR x y z)) cs) (len-1)=t at L M hk ⊢;obtain⟨vz0,vz1,vz2⟩:=in1_0 wv.z;cases m
 ·have hk':(KkR.div (KkR.mul 0 l.p (unV KkR a b c).z).2 (KkR.mul 0 l.p (unV KkR a b c).z).1 t.p).2=0:=hk;have e0:(KkR.mul 0 l.p (unV KkR a b c).z).2=0:=(div_0 hk').1;obtain⟨_,q,hq,_⟩:=kmul_i e0;obtain⟨f,p,fm,pm,f0,p0,fp⟩:=L.pt;obtain⟨rq,nq⟩:=nn_mul hq L.ar (inb_rt1 wv.z) L.a0 vz0;show rt (KkR.div (KkR.mul 0 l.p (unV KkR a b c).z).2 (KkR.mul 0 l.p (unV KkR a b c).z).1 t.p).1=true/\0<=(KkR.div (KkR.mul 0 l.p (unV KkR a b c).z).2 (KkR.mul 0 l.p (unV KkR a b c).z).1 t.p).1.lo.q/\(KkR.div (KkR.mul 0 l.p (unV KkR a b c).z).2 (KkR.mul 0 l.p (unV KkR a b c).z).1 t.p).1.lo.q<=B/\_;rw[hq]at hk' ⊢;obtain⟨r1,r2,r3⟩:=quo_w (B:=B) (Prod.ext rfl hk':KkR.div 0 q t.p=((KkR.div 0 q t.p).1,0)) rq L.dr nq L.d0 (mul_pt hq fm ⟨Rat.le_refl,vz2⟩) pm fp;exact⟨r1,r2,r3,fun h=>by cases h⟩
 ·have hk':(KkR.div 0 l.m t.m).2=0:=hk;obtain⟨f,p,fm,pm,f0,fp⟩:=M.pt;obtain⟨r1,r2,r3⟩:=quo_w (B:=1) (Prod.ext rfl hk':KkR.div 0 l.m t.m=((KkR.div 0 l.m t.m).1,0)) M.rr M.mr M.r0 M.m0 fm pm (by grind);exact⟨r1,r2,Rat.le_trans r3 hB,fun _=>r3⟩
def mstF(pc:List SV):Nat->F
 |0=>toF 4607182418800017408
 |k+1=>bif inAt pc (k*19)==2 then c156 else mstF pc k
theorem mstF_s(pc:List SV)(k:Nat):mstF pc (k+1)=bif inAt pc (k*19)==2 then c156 else mstF pc k:=rfl
theorem mstF_c(pc:List SV):∀n,mstF pc n=c156\/(mstF pc n=toF 4607182418800017408/\∀i,i<n->(inAt pc (i*19)==2)=false)
 |0=> .inr ⟨rfl,fun i hi=>by omega⟩
 | n + 1 => by
   rw[mstF_s];cases h:inAt pc (n*19)==2
   ·rcases mstF_c pc n with e|⟨e,k⟩
    ·exact .inl e
    ·refine .inr ⟨e,fun i hi=> ?_⟩;rcases Nat.lt_or_ge i n with g|g
     ·exact k i g
     ·have:i=n:=by omega
      subst this;exact h
   ·exact .inl rfl
theorem wl_loop{W:NWl}(hO:OracleOk prog (OWWl W)){pc:List SV}{n:Nat}{q:QWl}{X Y Z:F}{r:SmR}{x:Nat->SV}{B:Bs}(hB:B.M.length=4)(hn:n<=4096)(hc:∀j,j<n->ckAll pc (j*19) ndCK=true) :
  RunsB prog B (.block 0 (.loop wlBd)) (wlSL pc n q X Y Z r (mstF pc 0) (.si .i64 ((0:Nat):Int)) x none) .normal (fun t=>∃y,t=wlSL pc n q X Y Z r (mstF pc n) (.si .i64 (n:Nat)) y none):=by
 have hk:∀k,k<B.M.length->([0,1,2,3,4,5]:List Nat)[k]? =some k:=fun k hk=>by rw[hB]at hk;rcases (by omega:k=0\/k=1\/k=2\/k=3)with rfl|rfl|rfl|rfl<;>rfl
 refine loop_invB (fun(j:Nat)(y:Nat->SV)=>wlSL pc n q X Y Z r (mstF pc j) (.si .i64 (j:Nat)) y none) (fun _ _=>True) n ?_ ?_ _ trivial
 ·intro j y hj _;have hob:ObsOk (wlB W pc n q X Y Z r (mstF pc j) (j:Nat) y (inAt pc (j*19)==2)).ob:=by rw[wlOb,tN];exact ob_c rfl (ob_c (hc j hj) (ob_c (ix_of (by omega) (by omega)) (ob_c (dT (by omega)) ob_n)))
  refine RunsB.re (d:=some [true,inAt pc (j*19)==2]) (o:=[]) (RunsB.sel (RunsP.bs (Lands.runs goodG hO (wlLb W pc n q X Y Z r (mstF pc j) (j:Nat) y _) hob)) rfl (wlMb W pc n q X Y Z r (mstF pc j) (j:Nat) y _) hk fun v=> ?_);have hT:=wlTb W pc n q X Y Z r (mstF pc j) (j:Nat) y (inAt pc (j*19)==2) v (wlM4 pc q X Y Z r);have hw:IntKind.i64.wrap ((j:Int)+1)=((j+1:Nat):Int):=wrap_s (by omega);rw[hw,<-mstF_s]at hT;exact⟨wlSL pc n q X Y Z r (mstF pc (j+1)) (.si .i64 ((j+1:Nat):Int)) (wlXb W pc n q X Y Z r (mstF pc j) (j:Nat) y _ v) none,⟨_,trivial,rfl⟩,same_eq hT.symm rfl⟩
 ·intro y _;have hob:ObsOk (aft prog EG (OWWl W) 60 wlBd (wlSL pc n q X Y Z r (mstF pc n) (.si .i64 (n:Nat)) y (some [false]))).ob:=by rw[wlXo];exact ob_c (dF (by omega)) ob_n
  refine RunsB.re (d:=some [false]) (o:=[]) (RunsP.bs (Lands.fin goodG hO (wlLx W pc n q X Y Z r (mstF pc n) (n:Nat) y) hob ?_));exact⟨wlSL pc n q X Y Z r (mstF pc n) (.si .i64 (n:Nat)) (fun k=>bif Nat.beq k 61 then .b false else y k) none,⟨_,rfl⟩,same_eq (congrArg St.T (wlXo W pc n q X Y Z r (mstF pc n) (n:Nat) y)).symm (congrArg St.M (wlXo W pc n q X Y Z r (mstF pc n) (n:Nat) y)).symm⟩
structure WlOk (W:NWl) (pc:List SV) (n:Nat) (q:QWl) (X Y Z:F):Prop where
 o:ObsOk (wlRo W pc n q X Y Z)
 hn:n<=4096
 hc:∀j,j<n->ckAll pc (j*19) ndCK=true
 er:(wlR W pc n q X Y Z).e≠0->Er (wlR W pc n q X Y Z).e/\wlR W pc n q X Y Z=smZr (wlR W pc n q X Y Z).e
 ok:(wlR W pc n q X Y Z).e=0->∃k,ObsOk (wlK (wlR W pc n q X Y Z) (mstF pc n) k 2++(wlK (wlR W pc n q X Y Z) (mstF pc n) k 1++wlK (wlR W pc n q X Y Z) (mstF pc n) k 0))
theorem eqIvQ(a:I):eqIv a a=true:=by unfold eqIv;rw[dT rfl,dT rfl];rfl
set_option maxRecDepth 20000 in
theorem wl_run{W:NWl}(hO:OracleOk prog (OWWl W)){pc:List SV}{n:Nat}{q:QWl}{X Y Z:F}(K:WlOk W pc n q X Y Z){x:Nat->SV}{B:Bs}(hB:B.M.length=4) :
  RunsB prog B (post 2 wlC) (wlS pc n q X Y Z x none) .ret (fun t=>resultS prog Tryz.f8 t=some (.b true)):=by
 have ho:=K.o;by_cases he:(wlR W pc n q X Y Z).e=0
 ·have hk:∀(k:Nat),k<B.M.length->([0,1,2,3,4,5]:List Nat)[k]? =some k:=fun k hk=>by rw[hB]at hk;rcases (by omega:k=0\/k=1\/k=2\/k=3)with rfl|rfl|rfl|rfl<;>rfl
  refine RunsB.re (d:=some [false]) (o:=[]) ((wlL4 W pc n q X Y Z x).ok goodG hO (by rw[wlO4];exact ob_c (by rw[he];rfl) ho) ?_);refine RunsB.pickY (ids:=[0,1,2,3,4,5]) rfl (wlM4_eq W pc n q X Y Z x) hk fun v=> ?_;obtain⟨k,hkk⟩:=K.ok he;have hn:=K.hn;have hc:=K.hc;clear ho K;have hs:SameSt (wlS4 pc n q X Y Z (wlR W pc n q X Y Z) (toF 4607182418800017408) (wlX4 W pc n q X Y Z x v) none) ((wl4 W pc n q X Y Z x).sel [0,1,2,3,4,5] (wlM4 pc q X Y Z (wlR W pc n q X Y Z)) v):=same_eq (wlT4_eq W pc n q X Y Z x v _).symm rfl;refine RunsB.retell hs ?_;generalize wlR W pc n q X Y Z=r at hkk;generalize wlX4 W pc n q X Y Z x v=x1;show RunsB prog B wlC4 _ .ret _;rw[wlC4_cut];refine RunsB.seq (Φ:=fun t=>∃y,t=wlSL pc n q X Y Z r (mstF pc n) (.si .i64 (n:Nat)) y none) ?_ fun t ⟨y,ht⟩=> ?_
  ·refine LandsB.seq goodG hO (wlLr W pc n q X Y Z r _ x1) (by rw[wlOr];exact ob_n) ?_;have hs2:SameSt (wlSL pc n q X Y Z r (mstF pc 0) (.si .i64 ((0:Nat):Int)) x1 none) (aft prog EG (OWWl W) 60 wlRd (wlS4 pc n q X Y Z r (toF 4607182418800017408) x1 none)):=by
    refine same_T (fun mm=> ?_) ?_
    ·rw[wlTr];simp only[wlSL,wlTL,dens,den,Int.natCast_zero,mstF]
    ·rw[wlMr];rfl
   exact RunsB.retell hs2 (wl_loop hO hB hn hc)
  ·subst ht;exact RunsB.re (d:=some (wlTd k)) (o:=[]) (RunsP.bs (Lands.all goodG hO (wlLt W pc n q X Y Z r (mstF pc n) (n:Nat) y k) (by show ObsOk (aft prog EG (OWWl W) 60 wlTl (wlSL pc n q X Y Z r (mstF pc n) (.si .i64 (n:Nat)) y (some (wlTd k)))).ob;rw[wlTo];exact hkk) (wlTs W pc n q X Y Z r (mstF pc n) (n:Nat) y k)))
 ·obtain⟨h1,h2⟩:=K.er he;have hz:∀(b:Bool),ObsOk (wlEe (wlR W pc n q X Y Z).e b)->RunsB prog B (post 2 wlC) (wlS pc n q X Y Z x none) .ret (fun t=>resultS prog Tryz.f8 t=some (.b true)):=fun b hb=>
   RunsB.re (d:=some (wlEd b)) (o:=[]) (RunsP.bs (Lands.all goodG hO (wlL_e W pc n q X Y Z x b) (by
    show ObsOk (aft prog EG (OWWl W) 60 (post 2 wlC) (wlS pc n q X Y Z x (some (wlEd b)))).ob;rw[wlO_e];have e1:eqW3 (wlR W pc n q X Y Z).w (fun _=>zI)=true:=by rw[h2];unfold eqW3;rw[show(smZr (wlR W pc n q X Y Z).e).w=fun _=>zI from rfl,eqIvQ];rfl
    have e2:eqDr (wlR W pc n q X Y Z).d ⟨0,(toF 0,toF 0,toF 0),⟨zI,zI,zI⟩,0,false,0⟩=true:=by rw[h2,show(smZr (wlR W pc n q X Y Z).e).d=⟨0,(toF 0,toF 0,toF 0),⟨zI,zI,zI⟩,0,false,0⟩from rfl];unfold eqDr;rw[eqIvQ,dT rfl];rfl
    exact ob_c e1 (ob_c e2 (ob_a hb (ob_c (by simpa using he) ho)))) (wlV_e W pc n q X Y Z x b)))
  rcases h1 with h|h|h
  ·exact absurd h he
  ·exact hz false (by rw[h];exact ob_c rfl (ob_c rfl ob_n))
  ·exact hz true (by rw[h];exact ob_c rfl ob_n)
noncomputable def WlN:NWl:=⟨NprR,fun cs len=>prgC NprR (prU cs len) (prK len),prInB NprR,okPg,SmN,EvR,CeR,unV KkR,unB,KkR,meetsB⟩
theorem oracleWl:OracleOk prog (OWWl WlN):= .cons (eiO_ok (prG oraclePr rk_p.2.2.1 rfl) (pzG oraclePr rfl)) <| .cons bwG.of <| .cons smK.of <| .cons (show RdOk prog 50 (kRgt okPg)from rgtG).of <| .cons dwK.of <| .cons wgAG.of <| .cons eeK.of <| .cons unNG.of <| .cons meetsG.of <| .cons awake24G.of <|oracleCL
theorem c156_q:c156.q=7025615418697974/4503599627370496:=by have:c156.q*4503599627370496=7025615418697974:=q_of' (n:=7025615418697974) (s:=52) (by decide+kernel) rfl;grind
theorem one_qb:(toF 4607182418800017408).q=1:=one_q
theorem wl_ok{pc:List SV}{n:Nat}{q:QWl}(hl:pc.length=n*19)(hok:okPg pc n=true)(hn:n<=8)(kx:u64P q.x)(ky:u64P q.y)(kz:u64P q.z):WlOk WlN pc n q (wlX WlN q) (wlY WlN q) (wlZz WlN q):=by
 have hP:wlP pc n=pc:=by unfold wlP;rw[List.drop_zero,<-hl,List.take_length]
 have K:=okPg_ok hok;have hZ:z64.k<(wlZz WlN q).k:=by have h:=of_decide_eq_false (bw_up q.c);show z64.k<(bwF d64 one64 q.c).k;omega
 have hB:unB (wlX WlN q) (wlY WlN q) (wlZz WlN q)=true:=un_B bwN1 bwN1 bwN2.1 bwN2.2;have hu:OneP (unV KkR (wlX WlN q) (wlY WlN q) (wlZz WlN q)):=twP _ _ _;generalize wlX WlN q=X at*;generalize wlY WlN q=Y at*;generalize wlZz WlN q=Z at*;obtain⟨hO,hS⟩:=sm_ok hl hok hB hZ kx ky kz;have eR:wlR WlN pc n q X Y Z=smF SmN pc n X Y Z q.x q.y q.z:=by unfold wlR;rw[hP];rfl
 refine⟨?_,by omega,fun j hj=> ?_,fun he=> ?_,fun he=> ?_⟩
 ·unfold wlRo;rw[hP];exact ob_c hok (ob_a hO ob_n)
 ·have ca:CellsAt pc 0 pc:=fun t x hx=>by rw[Nat.zero_add];exact hx
  have:=(K.at ca hj).1
  rwa [Nat.zero_add]at this
 ·rw[eR]at he ⊢;exact⟨hS.er,hS.no he⟩
 ·rw[eR]at he ⊢;generalize smF SmN pc n X Y Z q.x q.y q.z=r at he hS ⊢;generalize smT SmN pc n X Y Z q.x q.y q.z=t at hS;have z0:(toF 0).q=0:=by have:=q_zero;rwa [show F.zero=toF 0 from F.ext' (by decide+kernel)]at this
  -- the most
  obtain⟨B,hB1,hOr,hm⟩:∃B:Rat,1<=B/\(∀i,i<n->(ndR pc (i*19)).k=2->1555/1000<=B)/\B<=(mstF pc n).q:=by
   rcases mstF_c pc n with e|⟨e,h⟩
   ·refine⟨1555/1000,by grind,fun _ _ _=>Rat.le_refl,?_⟩;rw[e,c156_q];decide+kernel
   ·refine⟨1,Rat.le_refl,fun i hi h2=> ?_,by rw[e,one_qb];exact Rat.le_refl⟩;have h3:=h i hi;have h4:inAt pc (i*19)=2:=h2;rw[h4]at h3;cases h3
  have mq0:0<=(mstF pc n).q:=by grind
  -- a channel
  have ch:∀{i:Nat},rt (r.w i)=true->0<=(r.w i).lo.q->(r.w i).lo.q<=(mstF pc n).q->ObsOk [(decide ((r.w i).hi.k<(r.w i).lo.k),false),(decide ((r.w i).lo.k<(toF 0).k),false),(decide ((mstF pc n).k<(r.w i).lo.k),false)]:=fun{i}h1 h2 h3=>by have h4:=oTz h1;have h5:=q_le.1 (show(toF 0).q<=(r.w i).lo.q by rw[z0];exact h2);have h6:=q_le.1 h3;exact ob_c (dF (by omega)) (ob_c (dF (by omega)) (ob_c (dF (by omega)) ob_n))
  have all:∀{k:W3},(∀i,i<3->ObsOk (wlK r (mstF pc n) k i))->∃k,ObsOk (wlK r (mstF pc n) k 2++(wlK r (mstF pc n) k 1++wlK r (mstF pc n) k 0)):=fun{k}h=>⟨k,ob_a (h 2 (by omega)) (ob_a (h 1 (by omega)) (h 0 (by omega)))⟩;rcases hS.f he with g|g|g
  ·have hw:=hS.f0 he g;refine all (k:= .f) fun i hi=> ?_;have ei:r.w i=zI:=by rw[hw]
   unfold wlK;refine ob_a (ob_c (by rw[ei,eqIvQ];rfl) (ob_c (by rw[g];rfl) (ob_c (by rw[g];rfl) ob_n))) (ch ?_ ?_ ?_)
   ·rw[ei];decide+kernel
   ·rw[ei];show 0<=(toF 0).q;rw[z0];exact Rat.le_refl
   ·rw[ei];show(toF 0).q<=_;rw[z0];exact mq0
  ·obtain⟨_,hd⟩:=hS.f1 he g;have b:=wg_bd hB1 hd hu K hOr;refine all (k:= .m) fun i hi=> ?_;obtain⟨b1,b2,b3,b4⟩:=b i hi;have h1:=q_le.1 (show(r.w i).lo.q<=(toF 4607182418800017408).q by rw[one_qb];exact b4 rfl);unfold wlK;exact ob_a (ob_c (by rw[g];rfl) (ob_c (dF (by omega)) (ob_c (by rw[g];rfl) ob_n))) (ch b1 b2 (Rat.le_trans b3 hm))
  ·have hd:=hS.f2 he g;have b:=wg_bd hB1 hd hu K hOr;refine all (k:= .d) fun i hi=> ?_;obtain⟨b1,b2,b3,_⟩:=b i hi;unfold wlK;exact ob_a (ob_c (by rw[g];rfl) (ob_c (by rw[g];rfl) ob_n)) (ch b1 b2 (Rat.le_trans b3 hm))
theorem u64_w{x:Int}(h:(Lit.int .u64 x).wf=true):u64P x:=by
 have:0<=x/\x<=18446744073709551615:=by simpa[Lit.wf,IntKind.min,IntKind.max,IntKind.signed,IntKind.bits]using h
 exact this
theorem weighBelow_some{el:TypeId}{z0:Nat×Nat}{cells:List SV}{off len cap:Nat}{a b c x y z:Int}{m:Nms}{w:World}{vs:List Value}(hM:MemAt m w [⟨el,cells,.ro z0⟩])(hvs:dens m [.ssl 0 off len cap,.agg [.si .u32 a,.si .u32 b,.si .u32 c],.agg [.si .u64 x,.si .u64 y,.si .u64 z]]=some vs)
  (hc:len<=cap) (hb:prInB NprR ((cells.drop off).take (len*8)) len=true) (ha:wN32 a=true) (hb_:wN32 b=true) (hc_:wN32 c=true) (hx:u64P x) (hy:u64P y) (hz:u64P z) :
  Calls prog 8 vs.toArray w fun e w'=>e= .returned (.bool true)/\Below w.heap.size w w':=by
 obtain⟨h1,h2⟩:=prog_ok hb;exact wl_calls oracleWl (q:=⟨a,b,c,x,y,z⟩) hM hvs hc hb (dirU_ok ha hb_ hc_) fun B x hB=>wl_run oracleWl (wl_ok (prgC_len _ _ _) h1 (by omega) hx hy hz) hB
theorem weighBelow_none{a b c x y z:Int}{w:World}{vs:List Value}(hvs:dens Nms.no [.o (.slice none 0 0),.agg [.si .u32 a,.si .u32 b,.si .u32 c],.agg [.si .u64 x,.si .u64 y,.si .u64 z]]=some vs)(ha:wN32 a=true)(hb_:wN32 b=true)(hc_:wN32 c=true)(hx:u64P x)(hy:u64P y)(hz:u64P z) :
  Calls prog 8 vs.toArray w fun e w'=>e= .returned (.bool true)/\Below w.heap.size w w':=by
 obtain⟨h1,h2⟩:=prog_ok (cs:=[]) (len:=0) rfl;exact wl_nil oracleWl (q:=⟨a,b,c,x,y,z⟩) hvs (dirU_ok ha hb_ hc_) fun B x hB=>wl_run oracleWl (wl_ok (prgC_len _ _ _) h1 (by omega) hx hy hz) hB
end Go.Proofs.YtejcekikbnlllaaGreat
