/- Sine and cosine of all parts of a turn: by polynomials of a great degree, and two pi to .. -/
import Derived.Test.YtejcekikbnlllaaGreatU08
set_option linter.all false
namespace Bu
open Rx Go
end Bu
namespace Bu
open Rx Go Ieee
structure Nr (D:F) (v:Rat):Prop where
 up:∀c:F,v<=c.q->D.q<=c.q
 dn:∀c:F,c.q<=v->c.q<=D.q
theorem z_lt_q{a:F}{d:Int}:a.z<=d↔a.q<=(d:Rat)/(S:Rat):=by have h:= @z_le_iff a d 1 (by decide);rw[show((1:Nat):Int)=1 from rfl,Int.mul_one,show((1:Nat):Rat)=1 from rfl,Rat.mul_one]at h;exact h
theorem z_gt_q{a:F}{d:Int}:d<=a.z↔(d:Rat)/(S:Rat)<=a.q:=by have h:= @rat_le_iff a d 1 (by decide);rw[show((1:Nat):Int)=1 from rfl,Int.mul_one,show((1:Nat):Rat)=1 from rfl,Rat.mul_one]at h;exact h
theorem nvk{c:F}(h:0<=c.k):(nv c.k.natAbs:Int)=c.z:=by
 have e:=nvZ_natCast c.k.natAbs;have:((c.k.natAbs:Nat):Int)=c.k:=by omega
 rw[this]at e;exact e.symm
theorem nr_of{d:Int}{g:F}(hd:d≠0)(hg:(d.natAbs:Int)<=g.z):∃D:F,double.word (decide (d<0)) (min (near d.natAbs 1) T)=D.b/\Nr D ((d:Rat)/(S:Rat)):=by
 have hg0:0<=g.k:=by
  have:0<g.z:=by omega
  have a:=z_sign g;have b:=z_zero g;omega
 have hT:=g.hk;have key:∀c:F,0<=c.k->((d.natAbs:Int)<=c.z->near d.natAbs 1<=c.k.natAbs)/\(c.z<=(d.natAbs:Int)->c.k.natAbs<=near d.natAbs 1):=by intro c hc;have e:=nvk hc;exact⟨fun h=>near_le (by decide) (by omega),fun h=>le_near (by decide) (by omega)⟩
 have k0:=(key g hg0).1 hg;have hpos:1<=near d.natAbs 1:=by
  have h1:nv 1=1:=by decide
  exact le_near (by decide) (by rw[h1];omega)
 rw[Nat.min_eq_left (by omega)];rcases Int.lt_or_gt_of_ne hd with h|h
 ·rw[dT h,word_F _ _ (by omega) (by intro _;omega),if_pos rfl];refine⟨_,rfl,?_,?_⟩
  ·intro c hc;rw[<-z_gt_q]at hc;rw[q_le,F.of_k (by omega)];rcases (show c.k<0\/0<=c.k by omega)with s|s
   ·have:=(key c.neg (by rw[F.neg_k];omega)).2 (by rw[F.neg_z];omega);rw[F.neg_k]at this;omega
   ·omega
  ·intro c hc;rw[<-z_lt_q]at hc;rw[q_le,F.of_k (by omega)];have a:=z_sign c;have:=(key c.neg (by rw[F.neg_k];omega)).1 (by rw[F.neg_z];omega);rw[F.neg_k]at this;omega
 ·rw[dF (by omega),word_F _ _ (by omega) (by simp),if_neg (by decide)];refine⟨_,rfl,?_,?_⟩
  ·intro c hc;rw[<-z_gt_q]at hc;rw[q_le,F.of_k (by omega)];have a:=z_sign c;have b:=z_zero c;have:=(key c (by omega)).1 (by omega);omega
  ·intro c hc;rw[<-z_lt_q]at hc;rw[q_le,F.of_k (by omega)];rcases (show c.k<0\/0<=c.k by omega)with s|s
   ·omega
   ·have:=(key c s).2 (by omega);omega
theorem nr_zero:Nr F.zero 0:=⟨fun c h=>by rw[q_zero];exact h,fun c h=>by rw[q_zero];exact h⟩
theorem z_diff'{x y c:F}(h:x.q-y.q<=c.q):x.z-y.z<=c.z:=by
 have h1:=mN (show 0<=c.q-(x.q-y.q) by grind) (Rat.le_of_lt S_gt);have e1:=F.q_mul x;have e2:=F.q_mul y;have e3:=F.q_mul c;have h2:((x.z-y.z:Int):Rat)<=((c.z:Int):Rat):=by rw[Rat.intCast_sub,<-e1,<-e2,<-e3];generalize (S:Rat)=s at*;grind
 exact Rat.intCast_le_intCast.1 h2
theorem add_nr{x y g:F}(h1:x.q+y.q<=g.q)(h2:-(x.q+y.q)<=g.q):∃D:F,double.add x.b y.b=some D.b/\Nr D (x.q+y.q):=by
 have e:x.q+y.q=((x.z+y.z:Int):Rat)/(S:Rat):=by have:=add_v x y;rw[show((1:Nat):Rat)=1 from rfl,Rat.mul_one]at this;exact this.symm
 have a1:x.z+y.z<=g.z:=by have:=z_diff' (x:=x) (y:=y.neg) (c:=g) (by rw[q_neg];grind);rw[F.neg_z]at this;omega
 have a2:-(x.z+y.z)<=g.z:=by have:=z_diff' (x:=x.neg) (y:=y) (c:=g) (by rw[q_neg];grind);rw[F.neg_z]at this;omega
 rw[add_F];by_cases c:x.z+y.z=0
 ·rw[if_pos c,e,c];refine⟨F.zero,rfl,?_⟩;rw[show((0:Int):Rat)=0 from rfl,Rat.div_def,Rat.zero_mul];exact nr_zero
 ·obtain⟨D,d1,d2⟩:=nr_of (g:=g) c (by omega);rw[if_neg c,d1,e];exact⟨D,rfl,d2⟩
end Bu
namespace Bu
open Rx Go
def sf(s:Option Nat):F:=toF (s.getD 0)
def so(s:Option Nat):Obs:=[(s.isSome,true),(rightB (s.getD 0),true)]
theorem so_ok{s:Option Nat}{D:F}(h:s=some D.b):obsB (so s)=true/\sf s=D:=by subst h;refine⟨?_,toF_F D⟩;unfold so obsB;rw[List.all_cons,List.all_cons,Option.isSome_some,Option.getD_some,right_F];rfl
def fad(x y:F):Option Nat:=Ieee.double.add x.b y.b
def fsu(x y:F):Option Nat:=Ieee.double.sub x.b y.b
structure N1 (x:F):Prop where
 lo:-1<=x.q
 hi:x.q<=1
theorem ob2{a b:Obs}(ha:obsB a=true)(hb:obsB b=true):obsB (a++b)=true:=by rw[obsB_app,ha,hb];rfl
def two64:F:=toF 4611686018427387904
def fmu(x y:F):Option Nat:=Ieee.double.mul x.b y.b
structure Kh where
 ib:I->Bool
 si:I->I
 co:I->I
 me:I->I->Bool
 add:Int->I->I->I×Int
 sub:Int->I->I->I×Int
 mul:Int->I->I->I×Int
 div:Int->I->I->I×Int
 max:Int->I->I->I×Int
 sqr:Int->I->I×Int
 sqrt:Int->I->I×Int
 num:Int->F->I×Int
def fdv(x y:F):Option Nat:=Ieee.double.div x.b y.b
def hT(N:Kh):I×Int:=N.num 0 two64
def hM1(N:Kh)(u:I):I×Int:=N.mul (hT N).2 (N.si u) (N.co u)
def hM2(N:Kh)(u:I):I×Int:=N.mul (hM1 N u).2 (hT N).1 (hM1 N u).1
def hQ1(N:Kh)(u:I):I×Int:=N.sqr (hM2 N u).2 (N.co u)
def hQ2(N:Kh)(u:I):I×Int:=N.sqr (hQ1 N u).2 (N.si u)
def hD(N:Kh)(u:I):I×Int:=N.sub (hQ2 N u).2 (hQ1 N u).1 (hQ2 N u).1
def hB(N:Kh)(u v:I):Obs:=[(!((hD N u).2==0),false),(N.me (N.co v) (hD N u).1,true),(N.me (N.si v) (hM2 N u).1,true),(N.ib v,true)]
def hP(f:Int->I->I->I×Int)(N:Kh)(t C:I)(e:Int):I×Int:=
 N.max (N.num (N.div (f (N.num e one64).2 (N.num e one64).1 C).2 (f (N.num e one64).2 (N.num e one64).1 C).1 t).2 (toF 0)).2 (N.div (f (N.num e one64).2 (N.num e one64).1 C).2 (f (N.num e one64).2 (N.num e one64).1 C).1 t).1 (N.num (N.div (f (N.num e one64).2 (N.num e one64).1 C).2 (f (N.num e one64).2 (N.num e one64).1 C).1 t).2 (toF 0)).1
def RD(v:Rat)(p:F×Int):Prop:=(p.2=0/\Dn p.1 v)\/(p.2=10/\∀c:F,v<c.q)
def RU(v:Rat)(p:F×Int):Prop:=(p.2=0/\Up p.1 v)\/(p.2=10/\∀c:F,c.q<v)
theorem rndR_RD{A:Int}{B:Nat}{v:Rat}(hB:0<B)(hv:(A:Rat)/((S:Rat)*(B:Rat))=v):RD v (rndR false A B):=by
 by_cases h:∃c:F,c.q<=v
 ·obtain⟨c,hc⟩:=h;obtain⟨r,e,d⟩:=rndR_dn hB hv c hc;rw[e];exact .inl ⟨rfl,d⟩
 ·refine .inr ⟨?_,fun c=>Rat.not_le.1 fun k=>h ⟨c,k⟩⟩;have hT:=T_num;have hk:∀x:F,x.k<=flI A B↔x.q<=(A:Rat)/((S:Rat)*(B:Rat)):=fun x=>by rw[le_flI hB,<-z_le_iff hB];rfl
  have h1:¬(F.of (-((T:Int)-1))).k<=flI A B:=fun k=>h ⟨_,by rw[<-hv];exact(hk _).1 k⟩;rw[F.of_k (by omega)]at h1;show(outDn (flI A B)).2=10;unfold outDn;rw[if_pos (by omega)]
theorem rndR_RU{A:Int}{B:Nat}{v:Rat}(hB:0<B)(hv:(A:Rat)/((S:Rat)*(B:Rat))=v):RU v (rndR true A B):=by
 by_cases h:∃c:F,v<=c.q
 ·obtain⟨c,hc⟩:=h;obtain⟨r,e,d⟩:=rndR_up hB hv c hc;rw[e];exact .inl ⟨rfl,d⟩
 ·refine .inr ⟨?_,fun c=>Rat.not_le.1 fun k=>h ⟨c,k⟩⟩;have hT:=T_num;have hk:∀x:F,ceI A B<=x.k↔(A:Rat)/((S:Rat)*(B:Rat))<=x.q:=fun x=>by rw[ceI_le hB,<-rat_le_iff hB];rfl
  have h1:¬ceI A B<=(F.of ((T:Int)-1)).k:=fun k=>h ⟨_,by rw[<-hv];exact(hk _).1 k⟩;rw[F.of_k (by omega)]at h1;show(outUp (ceI A B)).2=10;unfold outUp;rw[if_pos (by omega)]
theorem dAdd_RD(a b:F):RD (a.q+b.q) (dAdd false a b):=rndR_RD (by decide) (add_v a b)
theorem dAdd_RU(a b:F):RU (a.q+b.q) (dAdd true a b):=rndR_RU (by decide) (add_v a b)
theorem dSub_RD(a b:F):RD (a.q-b.q) (dSub false a b):=rndR_RD (by decide) (sub_v a b)
theorem dSub_RU(a b:F):RU (a.q-b.q) (dSub true a b):=rndR_RU (by decide) (sub_v a b)
theorem dMul_RD(a b:F):RD (a.q*b.q) (dMul false a b):=rndR_RD S_pos (mul_v a b)
theorem dMul_RU(a b:F):RU (a.q*b.q) (dMul true a b):=rndR_RU S_pos (mul_v a b)
theorem pDiv_RD{a b:F}(hb:b.k≠0):RD (a.q/b.q) (pDiv false a b):=by unfold pDiv;rw[if_neg hb];exact rndR_RD (by have:=z_zero b;omega) (div_v a b hb)
theorem pDiv_RU{a b:F}(hb:b.k≠0):RU (a.q/b.q) (pDiv true a b):=by unfold pDiv;rw[if_neg hb];exact rndR_RU (by have:=z_zero b;omega) (div_v a b hb)
theorem RD.ok{v:Rat}{p:F×Int}(h:RD v p)(e:p.2=0):Dn p.1 v:=by
 rcases h with h|h
 ·exact h.2
 ·have:=h.1;omega
theorem RU.ok{v:Rat}{p:F×Int}(h:RU v p)(e:p.2=0):Up p.1 v:=by
 rcases h with h|h
 ·exact h.2
 ·have:=h.1;omega
theorem RD.has{v:Rat}{p:F×Int}(h:RD v p){c:F}(hc:c.q<=v):p.2=0/\c.q<=p.1.q:=by
 rcases h with h|h
 ·exact⟨h.1,h.2.top c hc⟩
 ·exact absurd (h.2 c) (Rat.not_lt.2 hc)
theorem RU.has{v:Rat}{p:F×Int}(h:RU v p){c:F}(hc:v<=c.q):p.2=0/\p.1.q<=c.q:=by
 rcases h with h|h
 ·exact⟨h.1,h.2.bot c hc⟩
 ·exact absurd (h.2 c) (Rat.not_lt.2 hc)
def Er(e:Int):Prop:=e=0\/e=10\/e=11
theorem RD.er{v:Rat}{p:F×Int}(h:RD v p):Er p.2:=by rcases h with h|h;exact .inl h.1;exact .inr (.inl h.1)
theorem RU.er{v:Rat}{p:F×Int}(h:RU v p):Er p.2:=by rcases h with h|h;exact .inl h.1;exact .inr (.inl h.1)
theorem ends_0{p q:F×Int}(h:(endsI p q).2=0):p.2=0/\q.2=0/\endsI p q=(⟨p.1,q.1⟩,0):=by
 unfold endsI at*;by_cases k:p.2=0
 ·rw[k]at h ⊢;have h':q.2=0:=h;exact⟨rfl,h',by rw[h'];rfl⟩
 ·have e:(!(p.2==0))=true:=by simp[k]
  rw[e]at h;exact absurd h k
theorem ends_er{p q:F×Int}(h:Er p.2)(k:Er q.2):Er (endsI p q).2:=by
 unfold endsI;cases (!(p.2==0))
 ·exact k
 ·exact h
theorem ask_0{e:Int}{g:Bool}{r:I×Int}(h:(askI e g r).2=0):e=0/\g=true/\r.2=0/\askI e g r=(r.1,0):=by
 unfold askI at*;by_cases k:e=0
 ·subst k;cases g
  ·exact absurd (show(20:Int)=0 from h) (by decide)
  ·by_cases l:r.2=0
   ·rw[l];exact⟨rfl,rfl,rfl,rfl⟩
   ·have e:(!(r.2==0))=true:=by simp[l]
    rw[e]at h;exact absurd h l
 ·have f:(!(e==0))=true:=by simp[k]
  rw[f]at h;exact absurd h k
theorem ask_kept{e:Int}(he:e≠0)(g:Bool)(r:I×Int):askI e g r=(I.zero,e):=by
 unfold askI;have f:(!(e==0))=true:=by simp[he]
 rw[f];rfl
theorem ask_er{e:Int}{g:Bool}{r:I×Int}(h:Er e)(hg:g=true)(k:Er r.2):Er (askI e g r).2:=by
 subst hg;by_cases k0:e=0
 ·subst k0;by_cases l:r.2=0
  ·have:askI 0 true r=(r.1,0):=by unfold askI;rw[l];rfl
   rw[this];exact .inl rfl
  ·have:askI 0 true r=(I.zero,r.2):=by
    have e:(!(r.2==0))=true:=by simp[l]
    unfold askI;rw[e];rfl
   rw[this];exact k
 ·rw[ask_kept k0];exact h
theorem then_0{r:I×Int}{g:I->I×Int}(h:(thenI r g).2=0):r.2=0/\(g r.1).2=0/\thenI r g=g r.1:=by
 unfold thenI at*;by_cases k:r.2=0
 ·rw[k]at h ⊢;exact⟨rfl,h,rfl⟩
 ·have e:(!(r.2==0))=true:=by simp[k]
  rw[e]at h;exact absurd h k
theorem then_er{r:I×Int}{g:I->I×Int}(h:Er r.2)(k:Er (g r.1).2):Er (thenI r g).2:=by
 unfold thenI;cases (!(r.2==0))
 ·exact k
 ·exact h
structure Four (f:Bool->F->F->F×Int) (a b:I) (p q s t:Rat):Prop where
 d1:RD p (f false a.lo b.lo)
 u1:RU p (f true a.lo b.lo)
 d2:RD q (f false a.lo b.hi)
 u2:RU q (f true a.lo b.hi)
 d3:RD s (f false a.hi b.lo)
 u3:RU s (f true a.hi b.lo)
 d4:RD t (f false a.hi b.hi)
 u4:RU t (f true a.hi b.hi)
theorem all_0{f:Bool->F->F->F×Int}{a b:I}{p q s t:Rat}(k:Four f a b p q s t)(h:(allI f a b).2=0):AllR (allI f a b).1 p q s t:=by
 unfold allI at h;obtain⟨h1,g1,_⟩:=then_0 h;obtain⟨h2,g2,_⟩:=then_0 g1;obtain⟨h3,g3,_⟩:=then_0 g2;obtain⟨h4,_,_⟩:=then_0 g3;have ex:∀{x y:F}{v:Rat},(oneI f x y).2=0->RD v (f false x y)->RU v (f true x y)->(∃r,f false x y=(r,0)/\Dn r v)/\∃r,f true x y=(r,0)/\Up r v:=by intro x y v h d u;obtain⟨e1,e2,_⟩:=ends_0 h;exact⟨⟨_,by rw[<-e1],d.ok e1⟩,⟨_,by rw[<-e2],u.ok e2⟩⟩
 obtain⟨r,e,hr⟩:=allI_ok (ex h1 k.d1 k.u1) (ex h2 k.d2 k.u2) (ex h3 k.d3 k.u3) (ex h4 k.d4 k.u4);rw[e];exact hr
theorem all_er{f:Bool->F->F->F×Int}{a b:I}{p q s t:Rat}(k:Four f a b p q s t):Er (allI f a b).2:=by unfold allI;refine then_er (ends_er k.d1.er k.u1.er) (then_er (ends_er k.d2.er k.u2.er) (then_er (ends_er k.d3.er k.u3.er) (then_er (ends_er k.d4.er k.u4.er) (.inl rfl))))
theorem all_has{f:Bool->F->F->F×Int}{a b:I}{p q s t:Rat}(k:Four f a b p q s t){c d:F}(c1:c.q<=p)(c2:c.q<=q)(c3:c.q<=s)(c4:c.q<=t)(d1:p<=d.q)(d2:q<=d.q)(d3:s<=d.q)(d4:t<=d.q) :
  ∃r,allI f a b=(r,0)/\AllR r p q s t/\c.q<=r.lo.q/\r.hi.q<=d.q:=by
 have ex:∀{x y:F}{v:Rat},RD v (f false x y)->RU v (f true x y)->c.q<=v->v<=d.q->(∃r,f false x y=(r,0)/\Dn r v)/\∃r,f true x y=(r,0)/\Up r v:=by intro x y v h u hc hd;have e1:=(h.has hc).1;have e2:=(u.has hd).1;exact⟨⟨_,by rw[<-e1],h.ok e1⟩,⟨_,by rw[<-e2],u.ok e2⟩⟩
 obtain⟨r,e,hr⟩:=allI_ok (ex k.d1 k.u1 c1 d1) (ex k.d2 k.u2 c2 d2) (ex k.d3 k.u3 c3 d3) (ex k.d4 k.u4 c4 d4);exact⟨r,e,hr,hr.top c1 c2 c3 c4,hr.bot d1 d2 d3 d4⟩
theorem mul_four(a b:I):Four dMul a b (a.lo.q*b.lo.q) (a.lo.q*b.hi.q) (a.hi.q*b.lo.q) (a.hi.q*b.hi.q):=
 ⟨dMul_RD _ _,dMul_RU _ _,dMul_RD _ _,dMul_RU _ _,dMul_RD _ _,dMul_RU _ _,dMul_RD _ _,dMul_RU _ _⟩
theorem no_zero{b:I}(hr:rt b=true)(h:hasB b F.zero=false):0<b.lo.q\/b.hi.q<0:=by
 unfold hasB at h;rw[hr,Bool.true_and,Bool.and_eq_false_iff,decide_eq_false_iff_not,decide_eq_false_iff_not]at h;rcases h with h|h
 ·left;rw[<-q_zero];exact q_lt.2 (by omega)
 ·right;rw[<-q_zero];exact q_lt.2 (by omega)
theorem rt_le{a:I}(h:rt a=true):a.lo.q<=a.hi.q:=q_le.2 (oTz h)
theorem k_ne{x:F}(h:x.q≠0):x.k≠0:=fun k=>h (by rw[F.ext' (b:=F.zero) k,q_zero])
theorem div_four{a b:I}(hr:rt b=true)(h:hasB b F.zero=false):Four pDiv a b (a.lo.q/b.lo.q) (a.lo.q/b.hi.q) (a.hi.q/b.lo.q) (a.hi.q/b.hi.q):=by have n:=no_zero hr h;have l:=rt_le hr;have h1:b.lo.k≠0:=k_ne (by rcases n with n|n<;>grind);have h2:b.hi.k≠0:=k_ne (by rcases n with n|n<;>grind);exact⟨pDiv_RD h1,pDiv_RU h1,pDiv_RD h2,pDiv_RU h2,pDiv_RD h1,pDiv_RU h1,pDiv_RD h2,pDiv_RU h2⟩
theorem both{a b:Bool}(h:(a&&b)=true):a=true/\b=true:=by rwa [aTz]at h
theorem add_0{e:Int}{a b:I}(h:(cAdd dAdd e a b).2=0):e=0/\rt a=true/\rt b=true/\(cAdd dAdd e a b)=((cAdd dAdd e a b).1,0)/\Dn (cAdd dAdd e a b).1.lo (a.lo.q+b.lo.q)/\Up (cAdd dAdd e a b).1.hi (a.hi.q+b.hi.q):=by unfold cAdd at h ⊢;obtain⟨h0,h1,h2,h3⟩:=ask_0 h;obtain⟨g1,g2,g3⟩:=ends_0 h2;rw[h3,g3];exact⟨h0,(both h1).1,(both h1).2,rfl,(dAdd_RD _ _).ok g1,(dAdd_RU _ _).ok g2⟩
theorem sub_0{e:Int}{a b:I}(h:(cSub dSub e a b).2=0):e=0/\rt a=true/\rt b=true/\(cSub dSub e a b)=((cSub dSub e a b).1,0)/\Dn (cSub dSub e a b).1.lo (a.lo.q-b.hi.q)/\Up (cSub dSub e a b).1.hi (a.hi.q-b.lo.q):=by unfold cSub at h ⊢;obtain⟨h0,h1,h2,h3⟩:=ask_0 h;obtain⟨g1,g2,g3⟩:=ends_0 h2;rw[h3,g3];exact⟨h0,(both h1).1,(both h1).2,rfl,(dSub_RD _ _).ok g1,(dSub_RU _ _).ok g2⟩
theorem mul_0{e:Int}{a b:I}(h:(cMul dMul e a b).2=0):e=0/\rt a=true/\rt b=true/\(cMul dMul e a b)=((cMul dMul e a b).1,0)/\AllR (cMul dMul e a b).1 (a.lo.q*b.lo.q) (a.lo.q*b.hi.q) (a.hi.q*b.lo.q) (a.hi.q*b.hi.q):=by unfold cMul at h ⊢;obtain⟨h0,h1,h2,h3⟩:=ask_0 h;rw[h3];exact⟨h0,(both h1).1,(both h1).2,rfl,all_0 (mul_four a b) h2⟩
theorem div_0{e:Int}{a b:I}(h:(cDiv pDiv e a b).2=0):e=0/\rt a=true/\rt b=true/\hasB b F.zero=false/\(cDiv pDiv e a b)=((cDiv pDiv e a b).1,0)/\AllR (cDiv pDiv e a b).1 (a.lo.q/b.lo.q) (a.lo.q/b.hi.q) (a.hi.q/b.lo.q) (a.hi.q/b.hi.q):=by
 unfold cDiv at h ⊢;obtain⟨h0,h1,h2,h3⟩:=ask_0 h;rw[h3];cases k:hasB b F.zero
 ·rw[k]at h2;exact⟨h0,(both h1).1,(both h1).2,rfl,rfl,all_0 (div_four (both h1).2 k) h2⟩
 ·rw[k]at h2;exact absurd (show(11:Int)=0 from h2) (by decide)
theorem sqr_0{e:Int}{a:I}(h:(cSqr dMul e a).2=0):e=0/\rt a=true/\(cSqr dMul e a)=((cSqr dMul e a).1,0)/\Dn (cSqr dMul e a).1.lo ((bareI a).lo.q*(bareI a).lo.q)/\Up (cSqr dMul e a).1.hi ((bareI a).hi.q*(bareI a).hi.q):=by unfold cSqr at h ⊢;obtain⟨h0,h1,h2,h3⟩:=ask_0 h;obtain⟨g1,g2,g3⟩:=ends_0 h2;rw[h3,g3];exact⟨h0,h1,rfl,(dMul_RD _ _).ok g1,(dMul_RU _ _).ok g2⟩
theorem qSqrt_nn{up:Bool}{a:F}(h:(qSqrt up a).2=0):0<=a.q:=by
 apply Rat.not_lt.1;intro g;have hk:a.k<0:=by have:=q_lt.1 (show a.q<F.zero.q by rw[q_zero];exact g);exact this
 unfold qSqrt at h;rw[if_pos hk]at h;exact absurd h (by decide)
theorem sqrt_0{e:Int}{a:I}(h:(cSqrt qSqrt e a).2=0):e=0/\rt a=true/\0<=a.lo.q/\(cSqrt qSqrt e a)=((cSqrt qSqrt e a).1,0)/\SqD (cSqrt qSqrt e a).1.lo a.lo/\SqU (cSqrt qSqrt e a).1.hi a.hi:=by unfold cSqrt at h ⊢;obtain⟨h0,h1,h2,h3⟩:=ask_0 h;obtain⟨g1,g2,g3⟩:=ends_0 h2;have l:=qSqrt_nn g1;have r:=rt_le h1;obtain⟨x,e1,s1⟩:=(qSqrt_gen l).1;obtain⟨y,e2,s2⟩:=(qSqrt_gen (a:=a.hi) (by grind)).2;rw[h3,g3,e1,e2];exact⟨h0,h1,l,rfl,s1,s2⟩
theorem neg_0{e:Int}{a:I}(h:(cNeg e a).2=0):e=0/\rt a=true/\cNeg e a=(turnI a,0):=by unfold cNeg at h ⊢;obtain⟨h0,h1,h2,h3⟩:=ask_0 h;exact⟨h0,h1,h3⟩
theorem max_0{e:Int}{a b:I}(h:(cMax e a b).2=0):e=0/\rt a=true/\rt b=true/\cMax e a b=(maxI a b,0):=by unfold cMax at h ⊢;obtain⟨h0,h1,h2,h3⟩:=ask_0 h;exact⟨h0,(both h1).1,(both h1).2,h3⟩
theorem num_0{e:Int}{x:F}(h:(cNum e x).2=0):e=0/\cNum e x=(⟨x,x⟩,0):=by unfold cNum at h ⊢;obtain⟨h0,h1,h2,h3⟩:=ask_0 h;exact⟨h0,h3⟩
theorem corner{a0 a1 c0 c1 x y m:Rat}(h1:m<=a0*c0)(h2:m<=a0*c1)(h3:m<=a1*c0)(h4:m<=a1*c1)(x0:a0<=x)(x1:x<=a1)(y0:c0<=y)(y1:y<=c1):m<=x*y:=by have k1:m<=a0*y:=lin_ge h1 h2 y0 y1;have k2:m<=a1*y:=lin_ge h3 h4 y0 y1;have:=lin_ge (c:=y) (b0:=a0) (b1:=a1) (m:=m) (y:=x) (by grind) (by grind) x0 x1;grind
theorem corner'{a0 a1 c0 c1 x y m:Rat}(h1:a0*c0<=m)(h2:a0*c1<=m)(h3:a1*c0<=m)(h4:a1*c1<=m)(x0:a0<=x)(x1:x<=a1)(y0:c0<=y)(y1:y<=c1):x*y<=m:=by have k1:a0*y<=m:=lin_le h1 h2 y0 y1;have k2:a1*y<=m:=lin_le h3 h4 y0 y1;have:=lin_le (c:=y) (b0:=a0) (b1:=a1) (m:=m) (y:=x) (by grind) (by grind) x0 x1;grind
theorem inv_le{x y:Rat}(h:0<x/\x<=y\/x<=y/\y<0):y⁻¹<=x⁻¹:=by
 have hx:x≠0:=by rcases h with h|h<;>grind
 have hy:y≠0:=by rcases h with h|h<;>grind
 have e1:x*x⁻¹=1:=Rat.mul_inv_cancel x hx;have e2:y*y⁻¹=1:=Rat.mul_inv_cancel y hy;rcases h with h|h
 ·have p1:=Rat.inv_pos.2 h.1;have p2:=Rat.inv_pos.2 (show 0<y by grind);have:=mN (mN (show 0<=y-x by grind) (Rat.le_of_lt p1)) (Rat.le_of_lt p2);generalize x⁻¹=u at*;generalize y⁻¹=v at*;have e3:(y-x)*u*v=u-v:=by grind
  grind
 ·have p1:x⁻¹<0:=by apply Rat.not_le.1;intro g;have:=mN g (show 0<= -x by grind);generalize x⁻¹=u at*;grind
  have p2:y⁻¹<0:=by apply Rat.not_le.1;intro g;have:=mN g (show 0<= -y by grind);generalize y⁻¹=u at*;grind
  have:=mN (mN (show 0<=y-x by grind) (show 0<= -x⁻¹ by grind)) (show 0<= -y⁻¹ by grind);generalize x⁻¹=u at*;generalize y⁻¹=v at*;have e3:(y-x)* -u* -v=u-v:=by grind
  grind
theorem div_in{r a b:I}{x y:Rat}(hr:rt b=true)(hz:hasB b F.zero=false)(h:AllR r (a.lo.q/b.lo.q) (a.lo.q/b.hi.q) (a.hi.q/b.lo.q) (a.hi.q/b.hi.q))(hx:Mem a x)(hy:Mem b y):Mem r (x/y):=by have n:=no_zero hr hz;have y1:=hy.lo;have y2:=hy.hi;obtain⟨⟨l1,l2,l3,l4⟩,⟨u1,u2,u3,u4⟩,_,_⟩:=h;rw[Rat.div_def];simp only[Rat.div_def]at l1 l2 l3 l4 u1 u2 u3 u4;have i1:b.hi.q⁻¹<=y⁻¹:=inv_le (by rcases n with n|n;exact .inl ⟨by grind,y2⟩;exact .inr ⟨y2,n⟩);have i2:y⁻¹<=b.lo.q⁻¹:=inv_le (by rcases n with n|n;exact .inl ⟨n,y1⟩;exact .inr ⟨y1,by grind⟩);exact⟨corner l2 l1 l4 l3 hx.lo hx.hi i1 i2,corner' u2 u1 u4 u3 hx.lo hx.hi i1 i2⟩
theorem bare_gen{a:I}(hr:rt a=true):0<=(bareI a).lo.q/\(bareI a).lo.q<=(bareI a).hi.q/\∀v,Mem a v->(((bareI a).lo.q<=v/\v<=(bareI a).hi.q)\/((bareI a).lo.q<= -v/\ -v<=(bareI a).hi.q)):=by
 have x3:=rt_le hr;have hz:∀x:F,0<=x.k↔0<=x.q:=fun x=>by rw[<-q_zero,q_le];rfl
 unfold bareI;cases h1:decide (0<=a.lo.k)
 ·have g1:=of_decide_eq_false h1;rw[hz]at g1;rw[cF];cases h2:decide (a.hi.k<=0)
  ·have g2:=of_decide_eq_false h2;have g3:¬a.hi.q<=0:=by rw[<-q_zero,q_le];exact g2
   rw[cF];simp only;have m1:=mxF_q a.hi a.lo.neg;rw[q_neg]at m1;rw[q_zero];refine⟨Rat.le_refl,by grind,fun v hv=> ?_⟩;have v1:=hv.lo;have v2:=hv.hi;rcases (Rat.le_total:0<=v\/v<=0)with h|h
   ·exact .inl ⟨h,by grind⟩
   ·exact .inr ⟨by grind,by grind⟩
  ·have g2:=oTz h2;have g3:a.hi.q<=0:=by rw[<-q_zero,q_le];exact g2
   rw[cT];simp only[turnI,q_neg];exact⟨by grind,by grind,fun v hv=> .inr ⟨by have:=hv.hi;grind,by have:=hv.lo;grind⟩⟩
 ·have g1:=oTz h1;rw[hz]at g1;rw[cT];exact⟨g1,x3,fun v hv=> .inl ⟨hv.lo,hv.hi⟩⟩
theorem bare_ends{a:I}(hr:rt a=true):(Mem a (bareI a).lo.q\/Mem a (-(bareI a).lo.q))/\(Mem a (bareI a).hi.q\/Mem a (-(bareI a).hi.q)):=by
 have x3:=rt_le hr;have hz:∀x:F,0<=x.k↔0<=x.q:=fun x=>by rw[<-q_zero,q_le];rfl
 unfold bareI;cases h1:decide (0<=a.lo.k)
 ·have g1:=of_decide_eq_false h1;rw[hz]at g1;rw[cF];cases h2:decide (a.hi.k<=0)
  ·have g2:=of_decide_eq_false h2;have g3:¬a.hi.q<=0:=by rw[<-q_zero,q_le];exact g2
   rw[cF];simp only;rw[q_zero];refine⟨.inl ⟨by grind,by grind⟩,?_⟩;rcases mxF_or a.hi a.lo.neg with h|h
   ·rw[h];exact .inl ⟨x3,Rat.le_refl⟩
   ·rw[h,q_neg];exact .inr ⟨by grind,by grind⟩
  ·rw[cT];simp only[turnI,q_neg];exact⟨.inr ⟨by grind,by grind⟩,.inr ⟨by grind,by grind⟩⟩
 ·rw[cT];exact⟨.inl ⟨Rat.le_refl,x3⟩,.inl ⟨x3,Rat.le_refl⟩⟩
theorem sqr_in'{r a:I}{v:Rat}(ha:rt a=true)(h1:Dn r.lo ((bareI a).lo.q*(bareI a).lo.q))(h2:Up r.hi ((bareI a).hi.q*(bareI a).hi.q))(hv:Mem a v):Mem r (v*v):=by
 obtain⟨b1,b2,b3⟩:=bare_gen ha;have l:=h1.le;have u:=h2.ge;have key:∀{x w y:Rat},0<=x->x<=w->w<=y->x*x<=w*w/\w*w<=y*y:=by intro x w y h1 h2 h3;have a1:=mN h1 (show 0<=w-x by grind);have a2:=mN (show 0<=w by grind) (show 0<=w-x by grind);have a3:=mN (show 0<=w by grind) (show 0<=y-w by grind);have a4:=mN (show 0<=y by grind) (show 0<=y-w by grind);constructor<;>grind
 rcases b3 v hv with⟨c1,c2⟩|⟨c1,c2⟩
 ·have:=key b1 c1 c2;exact⟨by grind,by grind⟩
 ·have:=key b1 c1 c2;exact⟨by grind,by grind⟩
end Bu
