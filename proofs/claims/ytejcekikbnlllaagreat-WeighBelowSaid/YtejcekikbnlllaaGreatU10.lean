/- Straight lines: programs of interval arithmetic, row by row: what holds where there is no .. -/
import Derived.Maps.Own
import Derived.Carry
import Derived.RangeFuncNested
import Derived.RangeFuncBound
import Derived.RangeFuncCalls
import Derived.RangeFuncLeaves
import Derived.RangeFuncBox
import Derived.Shelf.Abstract
import Derived.OwnWalkIn
import Derived.TacticsInMore
import Derived.LoopNIn
import Derived.LoopIn
import Derived.Test.YtejcekikbnlllaaGreatProg
import Derived.Test.YtejcekikbnlllaaGreatU09
set_option linter.all false
set_option maxRecDepth 100000
open Go.Proofs.Tryz(prog)
namespace Bu
open Rx Go
structure Kk where
 add:Int->I->I->I×Int
 sub:Int->I->I->I×Int
 mul:Int->I->I->I×Int
 div:Int->I->I->I×Int
 max:Int->I->I->I×Int
 sqr:Int->I->I×Int
 sqrt:Int->I->I×Int
 neg:Int->I->I×Int
 num:Int->F->I×Int
def KkR:Kk:=⟨KTR.add,KTR.sub,KTR.mul,KTR.div,cMax,KTR.sqr,cSqrt qSqrt,KTR.neg,KTR.num⟩
inductive Op where
 |add (i j:Nat)
 |sub (i j:Nat)
 |mul (i j:Nat)
 |div (i j:Nat)
 |max (i j:Nat)
 |sqr (i:Nat)
 |sqrt (i:Nat)
 |neg (i:Nat)
 |num (x:F)
 |lit (a:I)
 |fn (f:I->I) (i:Nat)
 |fn2 (f:I->I->I) (i j:Nat)
 |kept (l h:F) (i:Nat)
 |wi (i:Nat)
 |hid (i:Nat)
def hidI(a:I):I:=⟨mxF a.lo (toF 0),mxF a.hi (toF 0)⟩
def gt(v:List I)(i:Nat):I:=v.getD i I.zero
def stepK(K:Kk)(o:Op)(v:List I)(e:Int):I×Int:=
 match o with
 | .add i j=>K.add e (gt v i) (gt v j)
 | .sub i j=>K.sub e (gt v i) (gt v j)
 | .mul i j=>K.mul e (gt v i) (gt v j)
 | .div i j=>K.div e (gt v i) (gt v j)
 | .max i j=>K.max e (gt v i) (gt v j)
 | .sqr i=>K.sqr e (gt v i)
 | .sqrt i=>K.sqrt e (gt v i)
 | .neg i=>K.neg e (gt v i)
 | .num x=>K.num e x
 | .lit a=>(a,e)
 | .fn f i=>(f (gt v i),e)
 | .fn2 f i j=>(f (gt v i) (gt v j),e)
 | .kept l h i=>(keptI (gt v i) l h,e)
 | .wi i=>(withI (gt v i),e)
 | .hid i=>(hidI (gt v i),e)
def evalK(K:Kk):List Op->List I->Int->List I×Int
 | [],v,e=>(v,e)
 |o::l,v,e=>evalK K l ((stepK K o v e).1::v) (stepK K o v e).2
def Fact(o:Op)(v:List I)(r:I):Prop:=
 match o with
 | .add i j=>Dn r.lo ((gt v i).lo.q+(gt v j).lo.q)/\Up r.hi ((gt v i).hi.q+(gt v j).hi.q)
 | .sub i j=>Dn r.lo ((gt v i).lo.q-(gt v j).hi.q)/\Up r.hi ((gt v i).hi.q-(gt v j).lo.q)
 | .mul i j=>AllR r ((gt v i).lo.q*(gt v j).lo.q) ((gt v i).lo.q*(gt v j).hi.q) ((gt v i).hi.q*(gt v j).lo.q) ((gt v i).hi.q*(gt v j).hi.q)
 | .div i j=>hasB (gt v j) F.zero=false/\AllR r ((gt v i).lo.q/(gt v j).lo.q) ((gt v i).lo.q/(gt v j).hi.q) ((gt v i).hi.q/(gt v j).lo.q) ((gt v i).hi.q/(gt v j).hi.q)
 | .max i j=>r=maxI (gt v i) (gt v j)
 | .sqr i=>Dn r.lo ((bareI (gt v i)).lo.q*(bareI (gt v i)).lo.q)/\Up r.hi ((bareI (gt v i)).hi.q*(bareI (gt v i)).hi.q)
 | .sqrt i=>0<=(gt v i).lo.q/\SqD r.lo (gt v i).lo/\SqU r.hi (gt v i).hi
 | .neg i=>r=turnI (gt v i)
 | .num x=>r=⟨x,x⟩
 | .lit a=>r=a
 | .fn f i=>r=f (gt v i)
 | .fn2 f i j=>r=f (gt v i) (gt v j)
 | .kept l h i=>r=keptI (gt v i) l h
 | .wi i=>r=withI (gt v i)
 | .hid i=>r=hidI (gt v i)
def ArgsRt(o:Op)(v:List I):Prop:=
 match o with
 | .add i j| .sub i j| .mul i j| .div i j| .max i j=>rt (gt v i)=true/\rt (gt v j)=true
 | .sqr i| .sqrt i| .neg i=>rt (gt v i)=true
 |_=>True
theorem step_fact{o:Op}{v:List I}{e:Int}(h:(stepK KkR o v e).2=0):e=0/\ArgsRt o v/\Fact o v (stepK KkR o v e).1:=by
 cases o with
 |add i j=>obtain⟨a,b,c,_,d⟩:=add_0 h;exact⟨a,⟨b,c⟩,d⟩
 |sub i j=>obtain⟨a,b,c,_,d⟩:=sub_0 h;exact⟨a,⟨b,c⟩,d⟩
 |mul i j=>obtain⟨a,b,c,_,d⟩:=mul_0 h;exact⟨a,⟨b,c⟩,d⟩
 |div i j=>obtain⟨a,b,c,d,_,f⟩:=div_0 h;exact⟨a,⟨b,c⟩,d,f⟩
 |max i j=>obtain⟨a,b,c,d⟩:=max_0 h;exact⟨a,⟨b,c⟩,congrArg Prod.fst d⟩
 |sqr i=>obtain⟨a,b,_,d⟩:=sqr_0 h;exact⟨a,b,d⟩
 |sqrt i=>obtain⟨a,b,c,_,d⟩:=sqrt_0 h;exact⟨a,b,c,d⟩
 |neg i=>obtain⟨a,b,d⟩:=neg_0 h;exact⟨a,b,congrArg Prod.fst d⟩
 |num x=>obtain⟨a,d⟩:=num_0 h;exact⟨a,trivial,congrArg Prod.fst d⟩
 |lit a=>exact⟨h,trivial,rfl⟩
 |fn f i=>exact⟨h,trivial,rfl⟩
 |fn2 f i j=>exact⟨h,trivial,rfl⟩
 |kept l u i=>exact⟨h,trivial,rfl⟩
 |wi i=>exact⟨h,trivial,rfl⟩
 |hid i=>exact⟨h,trivial,rfl⟩
theorem step_kept{o:Op}{v:List I}{e:Int}(he:e≠0):(stepK KkR o v e).2=e:=by
 cases o with
 |add i j=>exact congrArg Prod.snd (ask_kept he _ _)
 |sub i j=>exact congrArg Prod.snd (ask_kept he _ _)
 |mul i j=>exact congrArg Prod.snd (ask_kept he _ _)
 |div i j=>exact congrArg Prod.snd (ask_kept he _ _)
 |max i j=>exact congrArg Prod.snd (ask_kept he _ _)
 |sqr i=>exact congrArg Prod.snd (ask_kept he _ _)
 |sqrt i=>exact congrArg Prod.snd (ask_kept he _ _)
 |neg i=>exact congrArg Prod.snd (ask_kept he _ _)
 |num x=>exact congrArg Prod.snd (ask_kept he _ _)
 |lit a=>rfl
 |fn f i=>rfl
 |fn2 f i j=>rfl
 |kept l u i=>rfl
 |wi i=>rfl
 |hid i=>rfl
theorem eval_kept:∀{l:List Op}{v:List I}{e:Int},e≠0->(evalK KkR l v e).2=e
 | [],_,_,_=>rfl
 | o :: l, v, e, he => by show(evalK KkR l ((stepK KkR o v e).1::v) (stepK KkR o v e).2).2=e;rw[step_kept he];exact eval_kept he
def Chain:List Op->List I->List I->Prop
 | [],v,u=>u=v
 |o::l,v,u=>∃r,Fact o v r/\Chain l (r::v) u
theorem eval_chain:∀{l:List Op}{v:List I}{e:Int},(evalK KkR l v e).2=0->e=0/\Chain l v (evalK KkR l v e).1
 | [],_,_,h=>⟨h,rfl⟩
 | o :: l, v, e, h => by obtain⟨h1,h2⟩:=eval_chain (l:=l) h;obtain⟨g1,_,g2⟩:=step_fact h1;exact⟨g1,_,g2,h2⟩
theorem eval_cons{K:Kk}{o:Op}{l:List Op}{v:List I}{r:I}{e e':Int}(h:stepK K o v e=(r,e')):evalK K (o::l) v e=evalK K l (r::v) e':=by show evalK K l ((stepK K o v e).1::v) (stepK K o v e).2=_;rw[h]
theorem dn_up{l h:F}{v w:Rat}(a:Dn l v)(b:Up h w)(c:v<=w):rt ⟨l,h⟩=true:=rt_q (by have:=a.le;have:=b.ge;show l.q<=h.q;grind)
theorem AllR.rt{r:I}{p q s t:Rat}(h:AllR r p q s t):rt r=true:=rt_q (Rat.le_trans h.lo.1 h.hi.1)
theorem maxI_rt{a b:I}(ha:rt a=true)(hb:rt b=true):rt (maxI a b)=true:=by have h1:=oTz ha;have h2:=oTz hb;refine dT ?_;show(mxF a.lo b.lo).k<=(mxF a.hi b.hi).k;rw[mxF_k,mxF_k];omega
theorem turnI_rt{a:I}(ha:rt a=true):rt (turnI a)=true:=by have h1:=oTz ha;refine dT ?_;show -a.hi.k<= -a.lo.k;omega
theorem sq_rt{r a:I}(ha:rt a=true)(h0:0<=a.lo.q)(h1:SqD r.lo a.lo)(h2:SqU r.hi a.hi):rt r=true:=by have l:=rt_le ha;have:=h1.le;have:=h2.ge;exact rt_q (sq_le' h1.nn h2.nn (by grind))
theorem keptI_k(a:I)(l h:F):(keptI a l h).lo.k=min (max a.lo.k l.k) h.k/\(keptI a l h).hi.k=min (max a.hi.k l.k) h.k:=by unfold keptI;simp only[mnF_k,mxF_k];exact⟨trivial,trivial⟩
theorem keptI_rt{a:I}{l h:F}(ha:rt a=true):rt (keptI a l h)=true:=by have h1:=oTz ha;obtain⟨e1,e2⟩:=keptI_k a l h;refine dT ?_;rw[e1,e2];omega
theorem withI_rt(a:I):rt (withI a)=true:=by
 unfold withI;cases h:decide ((mnF a.hi one64).k<(mxF a.lo mone64).k)
 ·have:=of_decide_eq_false h;exact dT (by show(mxF a.lo mone64).k<=(mnF a.hi one64).k;omega)
 ·exact(show rt I.zero=true by decide)
theorem hidI_k(a:I):(hidI a).lo.k=max a.lo.k (toF 0).k/\(hidI a).hi.k=max a.hi.k (toF 0).k:=by unfold hidI;simp only[mxF_k];exact⟨trivial,trivial⟩
theorem hidI_rt{a:I}(ha:rt a=true):rt (hidI a)=true:=by have h1:=oTz ha;obtain⟨e1,e2⟩:=hidI_k a;refine dT ?_;rw[e1,e2];omega
def okO(o:Op)(v:List I):Prop:=
 match o with
 | .sqrt i=>0<=(gt v i).lo.q
 | .lit a=>rt a=true
 | .fn f i=>rt (f (gt v i))=true
 | .fn2 f i j=>rt (f (gt v i) (gt v j))=true
 |_=>True
theorem gt_rt{v:List I}(h:∀a∈v,rt a=true)(i:Nat):rt (gt v i)=true:=by
 unfold gt;rw[List.getD_eq_getElem?_getD];cases k:v[i]? with
 |none=>decide
 |some a=>exact h a (List.mem_of_getElem? k)
theorem fact_rt{o:Op}{v:List I}{r:I}(hv:∀a∈v,rt a=true)(ho:okO o v)(h:Fact o v r):rt r=true:=by
 have g:=gt_rt hv;cases o with
 |add i j=>have a:=rt_le (g i);have b:=rt_le (g j);exact dn_up h.1 h.2 (by grind)
 |sub i j=>have a:=rt_le (g i);have b:=rt_le (g j);exact dn_up h.1 h.2 (by grind)
 |mul i j=>exact h.rt
 |div i j=>exact h.2.rt
 |max i j=>rw[show r=_ from h];exact maxI_rt (g i) (g j)
 | sqr i =>
   obtain⟨b1,b2,_⟩:=bare_gen (g i);have:=sq_bd (x:=(bareI (gt v i)).lo.q) (m:=(bareI (gt v i)).hi.q) (by grind) b2;exact dn_up h.1 h.2 this
 |sqrt i=>exact sq_rt (g i) ho h.2.1 h.2.2
 |neg i=>rw[show r=_ from h];exact turnI_rt (g i)
 |num x=>rw[show r=_ from h];exact dT (Int.le_refl _)
 |lit a=>rw[show r=_ from h];exact ho
 |fn f i=>rw[show r=_ from h];exact ho
 |fn2 f i j=>rw[show r=_ from h];exact ho
 |kept l u i=>rw[show r=_ from h];exact keptI_rt (g i)
 |wi i=>rw[show r=_ from h];exact withI_rt _
 |hid i=>rw[show r=_ from h];exact hidI_rt (g i)
theorem qSqrt_er{up:Bool}{a:F}(h:0<=a.q):(qSqrt up a).2=0:=by
 cases up
 ·obtain⟨r,e,_⟩:=(qSqrt_gen h).1;rw[e]
 ·obtain⟨r,e,_⟩:=(qSqrt_gen h).2;rw[e]
theorem step_er{o:Op}{v:List I}(hv:∀a∈v,rt a=true)(ho:okO o v):Er (stepK KkR o v 0).2:=by
 have g:=gt_rt hv;have z:Er 0:= .inl rfl;have two:∀{i j},(rt (gt v i)&&rt (gt v j))=true:=by intro i j;rw[g i,g j];rfl
 cases o with
 |add i j=>exact ask_er z two (ends_er (dAdd_RD _ _).er (dAdd_RU _ _).er)
 |sub i j=>exact ask_er z two (ends_er (dSub_RD _ _).er (dSub_RU _ _).er)
 |mul i j=>exact ask_er z two (all_er (mul_four _ _))
 | div i j =>
   refine ask_er z two ?_;cases k:hasB (gt v j) F.zero
   ·exact all_er (div_four (g j) k)
   ·exact .inr (.inr rfl)
 |max i j=>exact ask_er z two z
 |sqr i=>exact ask_er z (g i) (ends_er (dMul_RD _ _).er (dMul_RU _ _).er)
 | sqrt i =>
   have l:=rt_le (g i);have ho':0<=(gt v i).lo.q:=ho;exact ask_er z (g i) (ends_er (.inl (qSqrt_er ho')) (.inl (qSqrt_er (by grind))))
 |neg i=>exact ask_er z (g i) z
 |num x=>exact ask_er z rfl z
 |lit a=>exact z
 |fn f i=>exact z
 |fn2 f i j=>exact z
 |kept l u i=>exact z
 |wi i=>exact z
 |hid i=>exact z
def CondE:List Op->List I->Prop
 | [],_=>True
 |o::l,v=>okO o v/\∀r,Fact o v r->rt r=true->CondE l (r::v)
theorem eval_er:∀{l:List Op}{v:List I},(∀a∈v,rt a=true)->CondE l v->Er (evalK KkR l v 0).2
 | [],_,_,_=> .inl rfl
 | o :: l, v, hv, hc => by
   have h:=step_er hv hc.1;by_cases k:(stepK KkR o v 0).2=0
   ·obtain⟨_,_,f⟩:=step_fact k;have r:=fact_rt hv hc.1 f;have ih:=eval_er (l:=l) (v:=(stepK KkR o v 0).1::v) (fun a ha=>by
     rcases List.mem_cons.1 ha with rfl|ha
     ·exact r
     ·exact hv a ha) (hc.2 _ f r)
    show Er (evalK KkR l ((stepK KkR o v 0).1::v) (stepK KkR o v 0).2).2;rw[k];exact ih
   ·show Er (evalK KkR l ((stepK KkR o v 0).1::v) (stepK KkR o v 0).2).2;rw[eval_kept k];exact h
structure Inn (a b:I):Prop where
 lo:b.lo.q<=a.lo.q
 hi:a.hi.q<=b.hi.q
 rt:rt a=true
theorem Inn.mem{a b:I}(h:Inn a b):Mem b a.lo.q/\Mem b a.hi.q:=by have:=rt_le h.rt;have:=h.lo;have:=h.hi;exact⟨⟨h.lo,by grind⟩,⟨by grind,h.hi⟩⟩
theorem Inn.refl{a:I}(h:Bu.rt a=true):Inn a a:=⟨Rat.le_refl,Rat.le_refl,h⟩
def MonoO:Op->Prop
 | .lit a=>rt a=true
 | .fn f _=>∀a b,Inn a b->Inn (f a) (f b)
 | .fn2 f _ _=>∀a b c d,Inn a b->Inn c d->Inn (f a c) (f b d)
 | .wi _=>False
 |_=>True
theorem ends_mk{p q:F×Int}(h:p.2=0)(k:q.2=0):endsI p q=(⟨p.1,q.1⟩,0):=by unfold endsI;rw[h,k];rfl
theorem ask_mk{g:Bool}{r:I×Int}(hg:g=true)(h:r.2=0):askI 0 g r=(r.1,0):=ask_ok hg h
theorem add_inn{a a' b b':I}(ha:Inn a a')(hb:Inn b b')(h:(cAdd dAdd 0 a' b').2=0):∃r,cAdd dAdd 0 a b=(r,0)/\Inn r (cAdd dAdd 0 a' b').1:=by
 obtain⟨_,_,_,_,d,u⟩:=add_0 h;generalize (cAdd dAdd 0 a' b').1=r' at*;have:=d.le;have:=u.ge;have:=ha.lo;have:=ha.hi;have:=hb.lo;have:=hb.hi;have p:=(dAdd_RD a.lo b.lo).has (c:=r'.lo) (by grind);have q:=(dAdd_RU a.hi b.hi).has (c:=r'.hi) (by grind);refine⟨⟨(dAdd false a.lo b.lo).1,(dAdd true a.hi b.hi).1⟩,?_,⟨p.2,q.2,?_⟩⟩
 ·unfold cAdd;rw[ends_mk p.1 q.1,ask_mk (by rw[ha.rt,hb.rt];rfl) rfl]
 ·have:=rt_le ha.rt;have:=rt_le hb.rt;exact dn_up ((dAdd_RD a.lo b.lo).ok p.1) ((dAdd_RU a.hi b.hi).ok q.1) (by grind)
theorem sub_inn{a a' b b':I}(ha:Inn a a')(hb:Inn b b')(h:(cSub dSub 0 a' b').2=0):∃r,cSub dSub 0 a b=(r,0)/\Inn r (cSub dSub 0 a' b').1:=by
 obtain⟨_,_,_,_,d,u⟩:=sub_0 h;generalize (cSub dSub 0 a' b').1=r' at*;have:=d.le;have:=u.ge;have:=ha.lo;have:=ha.hi;have:=hb.lo;have:=hb.hi;have p:=(dSub_RD a.lo b.hi).has (c:=r'.lo) (by grind);have q:=(dSub_RU a.hi b.lo).has (c:=r'.hi) (by grind);refine⟨⟨(dSub false a.lo b.hi).1,(dSub true a.hi b.lo).1⟩,?_,⟨p.2,q.2,?_⟩⟩
 ·unfold cSub;rw[ends_mk p.1 q.1,ask_mk (by rw[ha.rt,hb.rt];rfl) rfl]
 ·have:=rt_le ha.rt;have:=rt_le hb.rt;exact dn_up ((dSub_RD a.lo b.hi).ok p.1) ((dSub_RU a.hi b.lo).ok q.1) (by grind)
theorem mul_inn{a a' b b':I}(ha:Inn a a')(hb:Inn b b')(h:(cMul dMul 0 a' b').2=0):∃r,cMul dMul 0 a b=(r,0)/\Inn r (cMul dMul 0 a' b').1:=by obtain⟨_,_,_,_,d⟩:=mul_0 h;generalize (cMul dMul 0 a' b').1=r' at*;obtain⟨a1,a2⟩:=ha.mem;obtain⟨b1,b2⟩:=hb.mem;have m1:=mul_mem d a1 b1;have m2:=mul_mem d a1 b2;have m3:=mul_mem d a2 b1;have m4:=mul_mem d a2 b2;obtain⟨r,e,hr,c1,c2⟩:=all_has (mul_four a b) m1.lo m2.lo m3.lo m4.lo m1.hi m2.hi m3.hi m4.hi;refine⟨r,?_,⟨c1,c2,hr.rt⟩⟩;unfold cMul;rw[e,ask_mk (by rw[ha.rt,hb.rt];rfl) rfl]
theorem div_inn{a a' b b':I}(ha:Inn a a')(hb:Inn b b')(h:(cDiv pDiv 0 a' b').2=0):∃r,cDiv pDiv 0 a b=(r,0)/\Inn r (cDiv pDiv 0 a' b').1:=by
 obtain⟨_,_,hr',hz,_,d⟩:=div_0 h;generalize (cDiv pDiv 0 a' b').1=r' at*;obtain⟨a1,a2⟩:=ha.mem;obtain⟨b1,b2⟩:=hb.mem;have n:=no_zero hr' hz;have z:hasB b F.zero=false:=by
  unfold hasB;rw[hb.rt,Bool.true_and,Bool.and_eq_false_iff,decide_eq_false_iff_not,decide_eq_false_iff_not];have l1:=hb.lo;have l2:=hb.hi;rcases n with n|n
  ·left;intro k;have:=q_le.2 k;rw[q_zero]at this;grind
  ·right;intro k;have:=q_le.2 k;rw[q_zero]at this;grind
 have m1:=div_in hr' hz d a1 b1;have m2:=div_in hr' hz d a1 b2;have m3:=div_in hr' hz d a2 b1;have m4:=div_in hr' hz d a2 b2;obtain⟨r,e,hr,c1,c2⟩:=all_has (div_four (a:=a) hb.rt z) m1.lo m2.lo m3.lo m4.lo m1.hi m2.hi m3.hi m4.hi;refine⟨r,?_,⟨c1,c2,hr.rt⟩⟩;unfold cDiv;rw[z,cF,e,ask_mk (by rw[ha.rt,hb.rt];rfl) rfl]
theorem sqr_inn{a a':I}(ha:Inn a a')(h:(cSqr dMul 0 a').2=0):∃r,cSqr dMul 0 a=(r,0)/\Inn r (cSqr dMul 0 a').1:=by
 obtain⟨_,hr,_,d,u⟩:=sqr_0 h;generalize (cSqr dMul 0 a').1=r' at*;obtain⟨b1,b2,_⟩:=bare_gen ha.rt;obtain⟨e1,e2⟩:=bare_ends ha.rt;have key:∀{x:Rat},(Mem a x\/Mem a (-x))->Mem r' (x*x):=by
  intro x hx;have up:∀{y:Rat},Mem a y->Mem a' y:=fun hy=>⟨by have:=hy.lo;have:=ha.lo;grind,by have:=hy.hi;have:=ha.hi;grind⟩;rcases hx with hx|hx
  ·exact sqr_in' hr d u (up hx)
  ·have:=sqr_in' hr d u (up hx)
   rwa [show -x* -x=x*x by grind]at this
 have p:=(dMul_RD (bareI a).lo (bareI a).lo).has (c:=r'.lo) (key e1).lo;have q:=(dMul_RU (bareI a).hi (bareI a).hi).has (c:=r'.hi) (key e2).hi;refine⟨⟨(dMul false (bareI a).lo (bareI a).lo).1,(dMul true (bareI a).hi (bareI a).hi).1⟩,?_,⟨p.2,q.2,?_⟩⟩
 ·unfold cSqr;rw[ends_mk p.1 q.1,ask_mk ha.rt rfl]
 ·exact dn_up ((dMul_RD _ _).ok p.1) ((dMul_RU _ _).ok q.1) (sq_bd (by grind) b2)
theorem sqrt_inn{a a':I}(ha:Inn a a')(h:(cSqrt qSqrt 0 a').2=0):∃r,cSqrt qSqrt 0 a=(r,0)/\Inn r (cSqrt qSqrt 0 a').1:=by obtain⟨_,_,h0,_,d,u⟩:=sqrt_0 h;generalize (cSqrt qSqrt 0 a').1=r' at*;have l1:=ha.lo;have l2:=ha.hi;have l3:=rt_le ha.rt;obtain⟨x,e1,s1⟩:=(qSqrt_gen (a:=a.lo) (by grind)).1;obtain⟨y,e2,s2⟩:=(qSqrt_gen (a:=a.hi) (by grind)).2;have dl:=d.le;have ug:=u.ge;refine⟨⟨x,y⟩,?_,⟨s1.top _ d.nn (by grind),s2.bot _ u.nn (by grind),sq_rt (r:=⟨x,y⟩) ha.rt (by grind) s1 s2⟩⟩;unfold cSqrt;rw[e1,e2,ends_mk rfl rfl,ask_mk ha.rt rfl]
theorem max_inn{a a' b b':I}(ha:Inn a a')(hb:Inn b b'):Inn (maxI a b) (maxI a' b'):=by
 have h1:=q_le.1 ha.lo;have h2:=q_le.1 ha.hi;have h3:=q_le.1 hb.lo;have h4:=q_le.1 hb.hi;refine⟨q_le.2 ?_,q_le.2 ?_,maxI_rt ha.rt hb.rt⟩
 ·show(mxF a'.lo b'.lo).k<=(mxF a.lo b.lo).k;rw[mxF_k,mxF_k];omega
 ·show(mxF a.hi b.hi).k<=(mxF a'.hi b'.hi).k;rw[mxF_k,mxF_k];omega
theorem turn_inn{a a':I}(ha:Inn a a'):Inn (turnI a) (turnI a'):=by
 have h1:=ha.lo;have h2:=ha.hi;refine⟨?_,?_,turnI_rt ha.rt⟩
 ·show a'.hi.neg.q<=a.hi.neg.q;rw[q_neg,q_neg];grind
 ·show a.lo.neg.q<=a'.lo.neg.q;rw[q_neg,q_neg];grind
theorem kept_inn{a a':I}(l h:F)(ha:Inn a a'):Inn (keptI a l h) (keptI a' l h):=by have h1:=q_le.1 ha.lo;have h2:=q_le.1 ha.hi;obtain⟨e1,e2⟩:=keptI_k a l h;obtain⟨e3,e4⟩:=keptI_k a' l h;exact⟨q_le.2 (by rw[e1,e3];omega),q_le.2 (by rw[e2,e4];omega),keptI_rt ha.rt⟩
theorem hid_inn{a a':I}(ha:Inn a a'):Inn (hidI a) (hidI a'):=by have h1:=q_le.1 ha.lo;have h2:=q_le.1 ha.hi;obtain⟨e1,e2⟩:=hidI_k a;obtain⟨e3,e4⟩:=hidI_k a';exact⟨q_le.2 (by rw[e1,e3];omega),q_le.2 (by rw[e2,e4];omega),hidI_rt ha.rt⟩
theorem step_inn{o:Op}{v v':List I}(hm:MonoO o)(hv:∀i,Inn (gt v i) (gt v' i))(h:(stepK KkR o v' 0).2=0):∃r,stepK KkR o v 0=(r,0)/\Inn r (stepK KkR o v' 0).1:=by
 cases o with
 |add i j=>exact add_inn (hv i) (hv j) h
 |sub i j=>exact sub_inn (hv i) (hv j) h
 |mul i j=>exact mul_inn (hv i) (hv j) h
 |div i j=>exact div_inn (hv i) (hv j) h
 | max i j =>
   obtain⟨_,_,_,e⟩:=max_0 h;refine⟨maxI (gt v i) (gt v j),ask_mk (by rw[(hv i).rt,(hv j).rt];rfl) rfl,?_⟩;show Inn _ (cMax 0 (gt v' i) (gt v' j)).1;rw[e];exact max_inn (hv i) (hv j)
 |sqr i=>exact sqr_inn (hv i) h
 |sqrt i=>exact sqrt_inn (hv i) h
 | neg i =>
   obtain⟨_,_,e⟩:=neg_0 h;refine⟨turnI (gt v i),ask_mk (hv i).rt rfl,?_⟩;show Inn _ (cNeg 0 (gt v' i)).1;rw[e];exact turn_inn (hv i)
 |num x=>exact⟨⟨x,x⟩,rfl,Inn.refl (dT (Int.le_refl _))⟩
 |lit a=>exact⟨a,rfl,Inn.refl hm⟩
 |fn f i=>exact⟨_,rfl,hm _ _ (hv i)⟩
 |fn2 f i j=>exact⟨_,rfl,hm _ _ _ _ (hv i) (hv j)⟩
 |kept l u i=>exact⟨_,rfl,kept_inn l u (hv i)⟩
 |wi i=>exact hm.elim
 |hid i=>exact⟨_,rfl,hid_inn (hv i)⟩
theorem eval_inn:∀{l:List Op}{v v':List I},(∀o∈l,MonoO o)->(∀i,Inn (gt v i) (gt v' i))->(evalK KkR l v' 0).2=0->(evalK KkR l v 0).2=0/\∀i,Inn (gt (evalK KkR l v 0).1 i) (gt (evalK KkR l v' 0).1 i)
 | [],_,_,_,hv,_=>⟨rfl,hv⟩
 | o :: l, v, v', hm, hv, h => by
   have h1:(stepK KkR o v' 0).2=0:=by apply Decidable.byContradiction;intro k;have:=eval_kept (l:=l) (v:=(stepK KkR o v' 0).1::v') k;have h':(evalK KkR l ((stepK KkR o v' 0).1::v') (stepK KkR o v' 0).2).2=0:=h;rw[this]at h';exact k h'
   obtain⟨r,e,hr⟩:=step_inn (hm o (by simp)) hv h1;have h':(evalK KkR l ((stepK KkR o v' 0).1::v') (stepK KkR o v' 0).2).2=0:=h;rw[h1]at h';have ih:=eval_inn (l:=l) (v:=r::v) (fun o ho=>hm o (by simp[ho])) (fun i=>by
    cases i with
    |zero=>exact hr
    |succ i=>exact hv i) h'
   rw[eval_cons e,eval_cons (show stepK KkR o v' 0=((stepK KkR o v' 0).1,0)from Prod.ext rfl h1)];exact ih
def nnS(o:Op)(s:List Bool):Bool:=
 match o with
 | .add i j| .mul i j| .div i j=>s.getD i false&&s.getD j false
 | .max i j=>s.getD i false||s.getD j false
 | .sqr _| .sqrt _| .hid _=>true
 | .num x=>decide (F.zero.k<=x.k)
 | .lit a=>decide (F.zero.k<=a.lo.k)
 | .kept l h _=>decide (F.zero.k<=l.k)&&decide (F.zero.k<=h.k)
 |_=>false
def okS(o:Op)(s:List Bool):Bool:=
 match o with
 | .sqrt i=>s.getD i false
 | .lit a=>rt a
 | .fn _ _| .fn2 _ _ _=>false
 |_=>true
def chk:List Op->List Bool->Bool
 | [],_=>true
 |o::l,s=>okS o s&&chk l (nnS o s::s)
def Flags(s:List Bool)(v:List I):Prop:=∀i,s.getD i false=true->0<=(gt v i).lo.q
theorem nn_q{x:F}(h:F.zero.k<=x.k):0<=x.q:=by rw[<-q_zero];exact q_le.2 h
theorem dn_nn{r:F}{v:Rat}(h:Dn r v)(hv:0<=v):0<=r.q:=by rw[<-q_zero];exact h.top F.zero (by rw[q_zero];exact hv)
theorem fact_nn{o:Op}{s:List Bool}{v:List I}{r:I}(hv:∀a∈v,rt a=true)(hf:Flags s v)(h:Fact o v r)(hn:nnS o s=true):0<=r.lo.q:=by
 have g:=gt_rt hv;cases o with
 | add i j =>
   obtain⟨a,b⟩:=both hn;have:=hf i a;have:=hf j b;exact dn_nn h.1 (by grind)
 |sub i j=>exact absurd hn (by simp[nnS])
 | mul i j =>
   obtain⟨a,b⟩:=both hn;have a1:=hf i a;have b1:=hf j b;have a2:=rt_le (g i);have b2:=rt_le (g j);have h':AllR r _ _ _ _:=h;rw[<-q_zero];refine h'.top ?_ ?_ ?_ ?_<;>(rw[q_zero];exact mN (by grind) (by grind))
 | div i j =>
   obtain⟨a,b⟩:=both hn;have a1:=hf i a;have b1:=hf j b;have a2:=rt_le (g i);have b2:=rt_le (g j);have h':AllR r _ _ _ _:=h.2;have n:=no_zero (g j) h.1;have dq:∀{x y:Rat},0<=x->0<y->0<=x/y:=fun hx hy=>by rw[Rat.div_def];exact mN hx (Rat.le_of_lt (Rat.inv_pos.2 hy))
   rw[<-q_zero];refine h'.top ?_ ?_ ?_ ?_<;>(rw[q_zero];exact dq (by grind) (by grind))
 | max i j =>
   rw[show r=_ from h];show 0<=(mxF _ _).q;have m:=mxF_q (gt v i).lo (gt v j).lo;rcases Bool.or_eq_true _ _▸hn with a|a
   ·have:=hf i a;grind
   ·have:=hf j a;grind
 | sqr i =>
   obtain⟨b1,_,_⟩:=bare_gen (g i);exact dn_nn h.1 (mN b1 b1)
 |sqrt i=>exact h.2.1.nn
 |neg i=>exact absurd hn (by simp[nnS])
 |num x=>rw[show r=_ from h];exact nn_q (oTz hn)
 |lit a=>rw[show r=_ from h];exact nn_q (oTz hn)
 |fn f i=>exact absurd hn (by simp[nnS])
 |fn2 f i j=>exact absurd hn (by simp[nnS])
 | kept l u i =>
   rw[show r=_ from h];obtain⟨a,b⟩:=both hn;have a':=oTz a;have b':=oTz b;exact nn_q (by rw[(keptI_k _ l u).1];omega)
 |wi i=>exact absurd hn (by simp[nnS])
 | hid i =>
   rw[show r=_ from h];have z:(toF 0).k=F.zero.k:=by decide+kernel
   exact nn_q (by rw[(hidI_k _).1];omega)
theorem chk_cond:∀{l:List Op}{s:List Bool}{v:List I},chk l s=true->Flags s v->(∀a∈v,rt a=true)->CondE l v
 | [],_,_,_,_,_=>trivial
 | o :: l, s, v, hc, hf, hv => by
   obtain⟨h1,h2⟩:=both hc;refine⟨?_,fun r fr hr=>chk_cond (l:=l) h2 (fun i hi=> ?_) fun a ha=> ?_⟩
   ·cases o with
    |sqrt i=>exact hf i h1
    |lit a=>exact h1
    |fn f i=>exact absurd h1 (by simp[okS])
    |fn2 f i j=>exact absurd h1 (by simp[okS])
    |_=>trivial
   ·cases i with
    |zero=>exact fact_nn hv hf fr hi
    |succ i=>exact hf i hi
   ·rcases List.mem_cons.1 ha with rfl|ha
    ·exact hr
    ·exact hv a ha
theorem eval_er'{l:List Op}{s:List Bool}{v:List I}(hc:chk l s=true)(hf:Flags s v)(hv:∀a∈v,rt a=true):Er (evalK KkR l v 0).2:=eval_er hv (chk_cond hc hf hv)
def cN32:F:=toF 4751297606873776128
def frT(n:Int):F:=sf (fdv (toF (FloatKind.f64.nearest n)) cN32)
def bwP(a b:F)(n:Int):F:=sf (fmu (sf (fsu b a)) (frT n))
def bwX(a b:F)(n:Int):F:=sf (fad a (bwP a b n))
def bwF(a b:F)(n:Int):F:=bif decide ((bwX a b n).k<a.k)then a else bif decide (b.k<(bwX a b n).k)then b else bwX a b n
def bwO(a b:F)(n:Int):Obs:=so (fad a (bwP a b n))++so (fmu (sf (fsu b a)) (frT n))++so (fdv (toF (FloatKind.f64.nearest n)) cN32)++ [(rightB (FloatKind.f64.nearest n),true)]++so (fsu b a)
def wN32(n:Int):Bool:=decide (0<=n/\n<=4294967295)
def pairB(a b:F):Bool:=decide (a.k<b.k)&&decide (F.zero.k<(sf (fsu b a)).k)&&obsB (so (fsu b a))&&decide ((sf (fsu b a)).k<=(toF 4625196817309499392).k)&&decide ((toF 4625196817309499392).neg.k<=a.k)&&decide (a.k<=(toF 4625196817309499392).k)&&decide (fmu (sf (fsu b a)) F.zero=some F.zero.b)
theorem cN32_z:cN32.z=4294967295*(S:Int)/\0<cN32.k:=⟨oTz (by decide+kernel),oTz (by decide+kernel)⟩
theorem c16_q:(toF 4625196817309499392).q=16:=q_int (n:=16) (by decide+kernel)
theorem frT_ok{n:Int}(h:wN32 n=true):∃t:F,fdv (toF (FloatKind.f64.nearest n)) cN32=some t.b/\0<=t.k/\t.k<=one64.k/\rightB (FloatKind.f64.nearest n)=true:=by
 have hn:=oTz h;obtain⟨m,rfl⟩:=Int.eq_ofNat_of_zero_le hn.1;by_cases hm:m=0
 ·subst hm;exact⟨F.zero,by decide+kernel,by decide+kernel,by decide+kernel,by decide+kernel⟩
 ·have hP:P=4503599627370496:=rfl;have hz:=nat_z (m:=m) (by omega);have hk:0<(F.dy m 0).k:=by
   have hS:=S_pos;have h2:0<(F.dy m 0).z:=by rw[hz];exact Int.mul_pos (by omega) (by omega)
   have a:=z_sign (F.dy m 0);have b:=z_zero (F.dy m 0);omega
  have hle:(F.dy m 0).z<=cN32.z:=by rw[hz,cN32_z.1];exact Int.mul_le_mul_of_nonneg_right (by omega) (by have:=S_pos;omega)
  obtain⟨t,e,t0,t1⟩:=div_le1 hk cN32_z.2 hle one64_nv (by rw[T_num];omega);refine⟨t,?_,t0,by rw[one64_k];omega,by rw[near_int (by omega)];exact right_F _⟩;unfold fdv;rw[near_int (by omega),toF_F];exact e
theorem mul_le1{x y:F}(hx:0<x.k)(hy:0<y.k)(h:y.k<=one64.k):∃t:F,fmu x y=some t.b/\0<=t.k/\t.k<=x.k:=by
 have hz:y.z<=(S:Int):=by
  have h1:=q_le.2 h;rw[one_q]at h1;have h2:=F.q_mul y;have h3:(y.z:Rat)<=((S:Int):Rat):=by rw[<-h2];have:=mN (show 0<=1-y.q by grind) (Rat.le_of_lt S_gt);rw[Rat.intCast_natCast];generalize (S:Rat)=s at*;grind
  exact Rat.intCast_le_intCast.1 h3
 have e:=mul_F x y (by omega) (by omega);rw[dF (show ¬x.k<0 by omega),dF (show ¬y.k<0 by omega)]at e;have hT:=x.hk;have hn:near (x.z.natAbs*y.z.natAbs) S<=x.k.natAbs:=by
  refine near_le S_pos ?_;have a:=nvk (c:=x) (by omega);have b:=z_sign x;have c:=z_sign y;have:x.z.natAbs=nv x.k.natAbs:=by omega
  rw[this];exact Nat.mul_le_mul_left _ (by omega)
 rw[Nat.min_eq_left (by omega),show(false^^false)=false from rfl,word_F _ _ (by omega) (by simp),if_neg (by decide)]at e;exact⟨_,e,by rw[F.of_k (by omega)];omega,by rw[F.of_k (by omega)];omega⟩
theorem bw_ok{a b:F}{n:Int}(hp:pairB a b=true)(h:wN32 n=true):obsB (bwO a b n)=true:=by
 unfold pairB at hp;simp only[aTz,decide_eq_true_iff]at hp;obtain⟨⟨⟨⟨⟨⟨p1,p2⟩,p3⟩,p4⟩,p5⟩,p6⟩,p7⟩:=hp;obtain⟨t,e1,t0,t1,hr⟩:=frT_ok h;obtain⟨o1,o2⟩:=so_ok e1;have eT:frT n=t:=o2;have p2':0<(sf (fsu b a)).k:=p2;have hm:∃p:F,fmu (sf (fsu b a)) t=some p.b/\0<=p.k/\p.k<=(sf (fsu b a)).k:=by
  by_cases ht:t.k=0
  ·have:t=F.zero:=F.ext' ht;subst this;exact⟨F.zero,p7,Int.le_refl _,by show(0:Int)<=_;omega⟩
  ·exact mul_le1 p2' (by omega) t1
 obtain⟨p,e2,q0,q1⟩:=hm;obtain⟨o3,o4⟩:=so_ok e2;have eP:bwP a b n=p:=by unfold bwP;rw[eT];exact o4
 have c:=c16_q;have a1:=q_le.2 p6;have a2:=q_le.2 p5;have a3:=q_le.2 (Int.le_trans q1 p4);have a4:0<=p.q:=by rw[<-q_zero];exact q_le.2 q0
 rw[q_neg]at a2;obtain⟨g,hg⟩:=big_ex;obtain⟨D,e3,_⟩:=add_nr (x:=a) (y:=p) (g:=g) (by grind) (by grind);obtain⟨o5,_⟩:=so_ok (show fad a p=some D.b from e3);unfold bwO;rw[eP,eT];exact ob2 (ob2 (ob2 (ob2 o5 o3) o1) (obsB_yes hr obsB_nil)) p3
theorem bwF_in{a b:F}{n:Int}(h:a.k<=b.k):a.k<=(bwF a b n).k/\(bwF a b n).k<=b.k:=by
 unfold bwF;cases h1:decide ((bwX a b n).k<a.k)
 ·have g1:=of_decide_eq_false h1;cases h2:decide (b.k<(bwX a b n).k)
  ·have g2:=of_decide_eq_false h2;simp only[cF];omega
  ·exact⟨h,Int.le_refl _⟩
 ·exact⟨Int.le_refl _,h⟩
def kBw(f:F->F->Int->F)(p:F->F->Bool)(u:Int->Bool):List SV->Dec->Option (SV×Dec×Obs)
 | [.fl a, .fl b, x], ds => match intS x with
   |some (.u32,n)=>some (.fl (f a b n),ds,[(p a b,true),(u n,true)])
   |_=>none
 |_,_=>none
def meetsB(a b:I):Bool:=decide (a.lo.k<=b.hi.k)&&decide (b.lo.k<=a.hi.k)
def pt(x:F):I:=⟨x,x⟩
end Bu
namespace Go.Proofs.YtejcekikbnlllaaGreat
open Go.RowKit Bu Rx
theorem bwRun(a b:F)(n:Int):valR ((run prog EG OIM 80).1 36 [.fl a,.fl b,.si .u32 n] [] (some [false,false]))=some (.fl (bwX a b n),some [],(decide (b.k<(bwX a b n).k),false)::(decide ((bwX a b n).k<a.k),false)::bwO a b n):=by kernel_rfl
theorem bwRun1(a b:F)(n:Int):valR ((run prog EG OIM 80).1 36 [.fl a,.fl b,.si .u32 n] [] (some [true]))=some (.fl a,some [],(decide ((bwX a b n).k<a.k),true)::bwO a b n):=by kernel_rfl
theorem bwRun2(a b:F)(n:Int):valR ((run prog EG OIM 80).1 36 [.fl a,.fl b,.si .u32 n] [] (some [false,true]))=some (.fl b,some [],(decide (b.k<(bwX a b n).k),true)::(decide ((bwX a b n).k<a.k),false)::bwO a b n):=by kernel_rfl
theorem bwG:PlainOk prog 36 (kBw bwF pairB wN32):=by
 intro args ds x ds' ob h ho;unfold kBw at h;split at h
 ·rename_i a b u;split at h
  ·rename_i n hk;simp only[sIz,pIz]at h;obtain⟨rfl,_,rfl⟩:=h;have hp:pairB a b=true:=ho _ (List.mem_cons_self ..);have hn:wN32 n=true:=ho (_,true) (List.mem_cons_of_mem _ (List.mem_cons_self ..));have hO:=bw_ok hp hn;refine⟨[.float .f64 a.b,.float .f64 b.b,.int .u32 n],.float .f64 (bwF a b n).b,plains_cons rfl (plains_cons rfl (plains_cons (intS_plain hk) plains_nil)),rfl,fun w=> ?_⟩;unfold bwF;cases h1:decide ((bwX a b n).k<a.k)
   ·cases h2:decide (b.k<(bwX a b n).k)
    ·exact calls_of_val goodG oracleIM 80 (bwRun a b n) (ObsOk.of_B (obsB_yes h2 (obsB_yes h1 hO))) rfl rfl w
    ·exact calls_of_val goodG oracleIM 80 (bwRun2 a b n) (ObsOk.of_B (obsB_yes h2 (obsB_yes h1 hO))) rfl rfl w
   ·exact calls_of_val goodG oracleIM 80 (bwRun1 a b n) (ObsOk.of_B (obsB_yes h1 hO)) rfl rfl w
  ·cases h
 ·cases h
theorem meetsRun0(a b c d:F):valR ((run prog EG OIM 80).1 27 [.agg [.fl a,.fl b],.agg [.fl c,.fl d]] [] (some [false]))=some (.b false,some [],[(decide (a.k<=d.k),false)]):=by kernel_rfl
theorem meetsRun1(a b c d:F)(h:Bool):valR ((run prog EG OIM 80).1 27 [.agg [.fl a,.fl b],.agg [.fl c,.fl d]] [] (some [true,h]))=some (.b h,some [],[(decide (c.k<=b.k),h),(decide (a.k<=d.k),true)]):=by cases h<;>kernel_rfl
theorem meetsG:PlainOk prog 27 (kBII meetsB):=by
 intro args ds x ds' ob h ho;unfold kBII at h;split at h
 ·rename_i a b c d;simp only[mIz,pIz]at h;obtain⟨⟨r,e,o⟩,h1,rfl,rfl,rfl⟩:=h;have hd:r=meetsB ⟨a,b⟩ ⟨c,d⟩:=takeB_ok h1 ho;subst hd;refine⟨[.agg #[.float .f64 a.b,.float .f64 b.b],.agg #[.float .f64 c.b,.float .f64 d.b]],.bool (meetsB ⟨a,b⟩ ⟨c,d⟩),rfl,rfl,fun w=> ?_⟩;unfold meetsB;cases h1:decide (a.k<=d.k)
  ·exact calls_of_val goodG oracleIM 80 (meetsRun0 a b c d) (ObsOk.of_B (obsB_yes h1 obsB_nil)) rfl rfl w
  ·rw[Bool.true_and];exact calls_of_val goodG oracleIM 80 (meetsRun1 a b c d _) (ObsOk.of_B (obsB_yes rfl (obsB_yes h1 obsB_nil))) rfl rfl w
 ·cases h
end Go.Proofs.YtejcekikbnlllaaGreat
namespace Bu
open Rx Go
structure Nd where
 k:Int
 f:Nat->F
 a:Int
 b:Int
def ndM(a0 a1 a2 a3 a4 a5 a6 a7 a8 a9 a10 a11 a12 a13 a14 a15:F)(i:Nat):F:=[a0,a1,a2,a3,a4,a5,a6,a7,a8,a9,a10,a11,a12,a13,a14,a15].getD i F.zero
def ndI(k:Int)(f:Nat->F)(a b:Int):SV:= .agg [.i .u8 k,.fl (f 0),.fl (f 1),.fl (f 2),.fl (f 3),.fl (f 4),.fl (f 5),.fl (f 6),.fl (f 7),.fl (f 8),.fl (f 9),.fl (f 10),.fl (f 11),.fl (f 12),.fl (f 13),.fl (f 14),.fl (f 15),.si .i64 a,.si .i64 b]
def ndOf:SV->Option Nd
 | .agg [k, .fl a0, .fl a1, .fl a2, .fl a3, .fl a4, .fl a5, .fl a6, .fl a7, .fl a8, .fl a9, .fl a10, .fl a11, .fl a12, .fl a13, .fl a14, .fl a15, a, b] => match intS k, intS a, intS b with
   |some (.u8,k),some (.i64,a),some (.i64,b)=>some ⟨k,ndM a0 a1 a2 a3 a4 a5 a6 a7 a8 a9 a10 a11 a12 a13 a14 a15,a,b⟩
   |_,_,_=>none
 |_=>none
def ndV(n:Nd):Value:= .agg #[.int .u8 n.k,.float .f64 (n.f 0).b,.float .f64 (n.f 1).b,.float .f64 (n.f 2).b,.float .f64 (n.f 3).b,.float .f64 (n.f 4).b,.float .f64 (n.f 5).b,.float .f64 (n.f 6).b,.float .f64 (n.f 7).b,.float .f64 (n.f 8).b,.float .f64 (n.f 9).b,.float .f64 (n.f 10).b,.float .f64 (n.f 11).b,.float .f64 (n.f 12).b,.float .f64 (n.f 13).b,.float .f64 (n.f 14).b,.float .f64 (n.f 15).b,.int .i64 n.a,.int .i64 n.b]
theorem ndOf_plain{x:SV}{n:Nd}(h:ndOf x=some n):plain x=some (ndV n):=by
 unfold ndOf at h;split at h
 ·rename_i k _ _ _ _ _ _ _ _ _ _ _ _ _ _ _ _ a b;split at h
  ·rename_i k' a' b' e1 e2 e3;simp only[sIz]at h;subst h;refine plain_agg ?_;refine plains_cons (intS_plain e1) ?_
   iterate 16 refine plains_cons rfl ?_
   exact plains_cons (intS_plain e2) (plains_cons (intS_plain e3) plains_nil)
  ·cases h
 ·cases h
def rnB(l h x:F):Bool:=decide (l.k<=x.k)&&decide (x.k<=h.k)
def zsB(f:Nat->F)(js:List Nat):Bool:=js.all fun j=>decide ((f j).k=F.zero.k)
def rsB(l h:F)(f:Nat->F)(js:List Nat):Bool:=js.all fun j=>rnB l h (f j)
def minA_:F:=toF 4584664420663164928
def minIo_:F:=toF 4607463893776728064
def four_:F:=toF 4616189618054758400
def minMt_:F:=toF 4589168020290535424
def maxMt_:F:=toF 4625196817309499392
def one_:F:=toF 4607182418800017408
def okNd(n:Nd)(p:Int):Bool:=
 bif decide (n.k=1)then rsB (toF 0) one_ n.f [0,1,2]&&(zsB n.f [3,4,5,6,7,8,9,10,11,12,13,14,15]&&(decide (n.a=0)&&decide (n.b=0)))
 else bif decide (n.k=2)then rsB (toF 0) one_ n.f [12,0,1,2]&&(zsB n.f [3,4,5,6,7,8,9,10,11,13,14,15]&&(decide (n.a=0)&&decide (n.b=0)))
 else bif decide (n.k=3)then rnB minA_ one_ (n.f 13)&&(rnB minIo_ four_ (n.f 14)&&(zsB n.f [0,1,2,3,4,5,6,7,8,9,10,11,12,15]&&(decide (n.a=0)&&decide (n.b=0))))
 else bif decide (n.k=4)then rnB minA_ one_ (n.f 13)&&(rsB minMt_ maxMt_ n.f [6,7,8,9,10,11]&&(zsB n.f [0,1,2,3,4,5,12,14,15]&&(decide (n.a=0)&&decide (n.b=0))))
 else bif decide (n.k=5)then rnB (toF 0) one_ (n.f 15)&&(zsB n.f [0,1,2,3,4,5,6,7,8,9,10,11,12,13,14]&&(decide (0<=n.a)&&(decide (n.a<p)&&(decide (0<=n.b)&&decide (n.b<p)))))
 else decide (n.k=6)&&(rnB minIo_ four_ (n.f 14)&&(rsB (toF 0) one_ n.f [3,4,5]&&(zsB n.f [0,1,2,6,7,8,9,10,11,12,13,15]&&(decide (0<=n.a)&&(decide (n.a<p)&&decide (n.b=0))))))
def kNd(v:Nd->Int->Bool):List SV->Dec->Option (SV×Dec×Obs)
 | [x, y], ds => match ndOf x, intS y with
   |some n,some (.i64,p)=>some (.b true,ds,[(v n p,true)])
   |_,_=>none
 |_,_=>none
def orW(x y:Int):Int:=IntKind.u64.wrap ((BitVec.ofInt IntKind.u64.bits x|||BitVec.ofInt IntKind.u64.bits y).toNat:Int)
def bitsR(g:Nat->F)(i:Nat):Int:=orW (orW (orW ((g i).b:Int) ((g (3+i)).b:Int)) ((g (6+i)).b:Int)) ((g (9+i)).b:Int)
def bitsE(g:Nat->F):Int:=orW (orW (orW (orW (orW (orW ((g 12).b:Int) ((g 13).b:Int)) ((g 14).b:Int)) ((g 15).b:Int)) (bitsR g 0)) (bitsR g 1)) (bitsR g 2)
def bitO(g:Nat->F):Obs:=[(decide (bitsE g=0),true)]
theorem orW_0:orW 0 0=0:=by decide+kernel
theorem bitsE_0{g:Nat->F}(h:∀j,j<16->(g j).b=0):bitsE g=0:=by unfold bitsE bitsR;simp only[h 0 (by omega),h 1 (by omega),h 2 (by omega),h 3 (by omega),h 4 (by omega),h 5 (by omega),h 6 (by omega),h 7 (by omega),h 8 (by omega),h 9 (by omega),h 10 (by omega),h 11 (by omega),h 12 (by omega),h 13 (by omega),h 14 (by omega),h 15 (by omega),Nat.reduceAdd,Int.natCast_zero,orW_0]
def rgO(l h x:F):Obs:=[(decide (x.k<=h.k),true),(decide (l.k<=x.k),true)]
def rgsO(l h:F)(f:Nat->F):List Nat->Obs
 | []=>[]
 |j::r=>rgO l h (f j)++rgsO l h f r
def z0O(a b:Int):Obs:=[(!(b==0),false),(!(a==0),false)]
def zf(f:Nat->F)(js:List Nat)(i:Nat):F:=bif js.contains i then toF 0 else f i
end Bu
namespace Go.Proofs.YtejcekikbnlllaaGreat
open Go.RowKit Bu Rx
def t2:Nat->List Bool
 |0=>[]
 |n+1=>true::true::t2 n
theorem nd1Run(f:Nat->F)(a b p:Int):valR ((run prog EG OIR 120).1 120 [ndI 1 f a b,.si .i64 p] [] (some (t2 3++ [false,false,true])))=some (.b true,some [],bitO (zf f [0,1,2])++(z0O a b++rgsO (toF 0) one_ f [2,1,0])):=by kernel_rfl
theorem nd2Run(f:Nat->F)(a b p:Int):valR ((run prog EG OIR 120).1 120 [ndI 2 f a b,.si .i64 p] [] (some (t2 4++ [false,false,true])))=some (.b true,some [],bitO (zf f [0,1,2,12])++(z0O a b++rgsO (toF 0) one_ f [2,1,0,12])):=by kernel_rfl
theorem nd3Run(f:Nat->F)(a b p:Int):valR ((run prog EG OIR 120).1 120 [ndI 3 f a b,.si .i64 p] [] (some (t2 2++ [false,false,true])))=some (.b true,some [],bitO (zf f [13,14])++(z0O a b++(rgO minIo_ four_ (f 14)++rgO minA_ one_ (f 13)))):=by kernel_rfl
theorem nd4Run(f:Nat->F)(a b p:Int):valR ((run prog EG OIR 120).1 120 [ndI 4 f a b,.si .i64 p] [] (some (t2 7++ [false,false,true])))=some (.b true,some [],bitO (zf f [6,7,8,9,10,11,13])++(z0O a b++(rgsO minMt_ maxMt_ f [11,10,9,8,7,6]++rgO minA_ one_ (f 13)))):=by kernel_rfl
theorem nd5Run(f:Nat->F)(a b p:Int):valR ((run prog EG OIR 120).1 120 [ndI 5 f a b,.si .i64 p] [] (some (t2 1++ [false,false,false,false,true])))=some (.b true,some [],bitO (zf f [15])++([(decide (b>=p),false),(decide (b<0),false),(decide (a>=p),false),(decide (a<0),false)]++rgO (toF 0) one_ (f 15))):=by kernel_rfl
theorem nd6Run(f:Nat->F)(a b p:Int):valR ((run prog EG OIR 120).1 120 [ndI 6 f a b,.si .i64 p] [] (some (t2 4++ [false,false,false,true])))=some (.b true,some [],bitO (zf f [3,4,5,14])++([(!(b==0),false),(decide (a>=p),false),(decide (a<0),false)]++(rgsO (toF 0) one_ f [5,4,3]++rgO minIo_ four_ (f 14)))):=by kernel_rfl
theorem rgO_ok{l h x:F}(k:rnB l h x=true):ObsOk (rgO l h x):=by
 unfold rnB at k;rw[aTz]at k;intro p hp;simp only[rgO,List.mem_cons,List.not_mem_nil,or_false]at hp;rcases hp with rfl|rfl
 ·exact k.2
 ·exact k.1
theorem obs_app{a b:Obs}(ha:ObsOk a)(hb:ObsOk b):ObsOk (a++b):=by
 intro p hp;rcases List.mem_append.1 hp with h|h
 ·exact ha p h
 ·exact hb p h
theorem obs_cons{c d:Bool}{b:Obs}(ha:c=d)(hb:ObsOk b):ObsOk ((c,d)::b):=by
 intro p hp;rcases List.mem_cons.1 hp with rfl|h
 ·exact ha
 ·exact hb p h
theorem obs_nil:ObsOk []:=fun p hp=>by cases hp
theorem rgsO_ok{l h:F}{f:Nat->F}:∀{js:List Nat},(∀j∈js,rnB l h (f j)=true)->ObsOk (rgsO l h f js)
 | [],_=>obs_nil
 |j::r,k=>obs_app (rgO_ok (k j (List.mem_cons_self ..))) (rgsO_ok fun i hi=>k i (List.mem_cons_of_mem _ hi))
theorem rsB_get{l h:F}{f:Nat->F}{js:List Nat}(k:rsB l h f js=true):∀j∈js,rnB l h (f j)=true:=List.all_eq_true.1 k
theorem bitO_ok{f:Nat->F}{js os:List Nat}(hc:∀j,j<16->js.contains j=true\/os.contains j=true)(hz:zsB f os=true):ObsOk (bitO (zf f js)):=by
 have z0:(toF 0).b=0:=by decide+kernel
 have z1:F.zero.b=0:=by decide+kernel
 refine obs_cons (dT (bitsE_0 fun j hj=> ?_)) obs_nil;unfold zf;cases h:js.contains j
 ·have h2:=(hc j hj).resolve_left (by rw[h];simp);have h3:=List.all_eq_true.1 hz j (List.contains_iff_mem.1 h2);have h4:=oTz h3;rw[cF,F.ext' h4,z1]
 ·rw[cT,z0]
theorem z0O_ok{a b:Int}(ha:a=0)(hb:b=0):ObsOk (z0O a b):=by subst ha;subst hb;exact obs_cons rfl (obs_cons rfl obs_nil)
set_option maxRecDepth 10000 in
theorem ndG:PlainOk prog 120 (kNd okNd):=by
 intro args ds x ds' ob h ho;unfold kNd at h;split at h
 ·rename_i y z;split at h
  ·rename_i n p e1 e2;simp only[sIz,pIz]at h;obtain⟨rfl,_,rfl⟩:=h;have hn:okNd n p=true:=ho _ (List.mem_singleton.2 rfl);refine⟨[ndV n,.int .i64 p],.bool true,plains_cons (ndOf_plain e1) (plains_cons (intS_plain e2) plains_nil),rfl,fun w=> ?_⟩;obtain⟨k,f,a,b⟩:=n;unfold okNd at hn;simp only at hn;by_cases h1:k=1
   ·subst h1;simp only[decide_true,cT,aTz,decide_eq_true_eq]at hn;obtain⟨r1,r2,r3,r4⟩:=hn;exact calls_of_val goodG oracleIR 120 (nd1Run f a b p) (obs_app (bitO_ok (by decide) r2) (obs_app (z0O_ok r3 r4) (rgsO_ok fun j hj=>rsB_get r1 j (by revert hj;revert j;decide)))) rfl rfl w
   ·by_cases h2:k=2
    ·subst h2;simp only[decide_true,decide_false,h1,cT,cF,aTz,decide_eq_true_eq]at hn;obtain⟨r1,r2,r3,r4⟩:=hn;exact calls_of_val goodG oracleIR 120 (nd2Run f a b p) (obs_app (bitO_ok (by decide) r2) (obs_app (z0O_ok r3 r4) (rgsO_ok fun j hj=>rsB_get r1 j (by revert hj;revert j;decide)))) rfl rfl w
    ·by_cases h3:k=3
     ·subst h3;simp only[decide_true,decide_false,h1,h2,cT,cF,aTz,decide_eq_true_eq]at hn;obtain⟨r0,r1,r2,r3,r4⟩:=hn;exact calls_of_val goodG oracleIR 120 (nd3Run f a b p) (obs_app (bitO_ok (by decide) r2) (obs_app (z0O_ok r3 r4) (obs_app (rgO_ok r1) (rgO_ok r0)))) rfl rfl w
     ·by_cases h4:k=4
      ·subst h4;simp only[decide_true,decide_false,h1,h2,h3,cT,cF,aTz,decide_eq_true_eq]at hn;obtain⟨r0,r1,r2,r3,r4⟩:=hn;exact calls_of_val goodG oracleIR 120 (nd4Run f a b p) (obs_app (bitO_ok (by decide) r2) (obs_app (z0O_ok r3 r4) (obs_app (rgsO_ok fun j hj=>rsB_get r1 j (by revert hj;revert j;decide)) (rgO_ok r0)))) rfl rfl w
      ·by_cases h5:k=5
       ·subst h5;simp only[decide_true,decide_false,h1,h2,h3,h4,cT,cF,aTz,decide_eq_true_eq]at hn;obtain⟨r0,r2,a1,a2,b1,b2⟩:=hn;exact calls_of_val goodG oracleIR 120 (nd5Run f a b p) (obs_app (bitO_ok (by decide) r2) (obs_app (obs_cons (dF (by omega)) (obs_cons (dF (by omega)) (obs_cons (dF (by omega)) (obs_cons (dF (by omega)) obs_nil)))) (rgO_ok r0))) rfl rfl w
       ·simp only[decide_false,h1,h2,h3,h4,h5,cF,aTz,decide_eq_true_eq]at hn;obtain⟨h6,r0,r1,r2,a1,a2,b1⟩:=hn;subst h6;subst b1;exact calls_of_val goodG oracleIR 120 (nd6Run f a 0 p) (obs_app (bitO_ok (by decide) r2) (obs_app (obs_cons rfl (obs_cons (dF (by omega)) (obs_cons (dF (by omega)) obs_nil))) (obs_app (rgsO_ok fun j hj=>rsB_get r1 j (by revert hj;revert j;decide)) (rgO_ok r0)))) rfl rfl w
  ·cases h
 ·cases h
end Go.Proofs.YtejcekikbnlllaaGreat
namespace Bu
open Rx Go
def ndCK:List CK:=[.i .u8,.f,.f,.f,.f,.f,.f,.f,.f,.f,.f,.f,.f,.f,.f,.f,.f,.i .i64,.i .i64]
theorem at_fl{cells cs:List SV}{off j:Nat}(h:CellsAt cells off cs)(hk:ckOk cs j .f=true):flAt cells (off+j)=flAt cs j/\ckOk cells (off+j) .f=true:=by
 have hk':(match cs[j]? with|some (.fl _)=>true|_=>false)=true:=hk;split at hk'
 ·rename_i x hx;have:=h j _ hx;unfold flAt ckOk;rw[this,hx];exact⟨rfl,rfl⟩
 ·cases hk'
theorem at_in{cells cs:List SV}{off j:Nat}{k:IntKind}(h:CellsAt cells off cs)(hk:ckOk cs j (.i k)=true):inAt cells (off+j)=inAt cs j/\ckOk cells (off+j) (.i k)=true:=by
 have hk':(match cs[j]? with|some (.i k' _)=>decide (k'=k)|some (.si k' _)=>decide (k'=k)|_=>false)=true:=hk;split at hk'
 ·rename_i k' n hx;have:=h j _ hx;unfold inAt ckOk;rw[this,hx];exact⟨rfl,hk'⟩
 ·rename_i k' n hx;have:=h j _ hx;unfold inAt ckOk;rw[this,hx];exact⟨rfl,hk'⟩
 ·cases hk'
theorem at_sv{cells cs:List SV}{off j:Nat}{k:CK}(h:CellsAt cells off cs)(hk:ckOk cs j k=true):ckSV cells (off+j) k=ckSV cs j k/\ckOk cells (off+j) k=true:=by
 cases k with
 |f=>obtain⟨a,b⟩:=at_fl h hk;exact⟨by unfold ckSV;rw[a],b⟩
 |i k=>obtain⟨a,b⟩:=at_in h hk;exact⟨by unfold ckSV;rw[a],b⟩
theorem at_row{cells cs:List SV}{off:Nat}(h:CellsAt cells off cs):∀{ks:List CK}{j:Nat},ckAll cs j ks=true->ckRow cells (off+j) ks=ckRow cs j ks/\ckAll cells (off+j) ks=true
 | [],j,_=>⟨rfl,rfl⟩
 | k :: l, j, e => by unfold ckAll at e;rw[aTz]at e;obtain⟨a,b⟩:=at_sv h e.1;obtain⟨c,d⟩:=at_row h e.2;unfold ckRow ckAll;rw[show off+j+1=off+(j+1) by omega,a,b,c,d];exact⟨rfl,rfl⟩
theorem nd_row(cs:List SV)(o:Nat):ndOf (.agg (ckRow cs o ndCK))=some ⟨inAt cs o,ndM (flAt cs (o+1)) (flAt cs (o+2)) (flAt cs (o+3)) (flAt cs (o+4)) (flAt cs (o+5)) (flAt cs (o+6)) (flAt cs (o+7)) (flAt cs (o+8)) (flAt cs (o+9)) (flAt cs (o+10)) (flAt cs (o+11)) (flAt cs (o+12)) (flAt cs (o+13)) (flAt cs (o+14)) (flAt cs (o+15)) (flAt cs (o+16)),inAt cs (o+17),inAt cs (o+18)⟩:=rfl
def ndR(cs:List SV)(o:Nat):Nd:=⟨inAt cs o,ndM (flAt cs (o+1)) (flAt cs (o+2)) (flAt cs (o+3)) (flAt cs (o+4)) (flAt cs (o+5)) (flAt cs (o+6)) (flAt cs (o+7)) (flAt cs (o+8)) (flAt cs (o+9)) (flAt cs (o+10)) (flAt cs (o+11)) (flAt cs (o+12)) (flAt cs (o+13)) (flAt cs (o+14)) (flAt cs (o+15)) (flAt cs (o+16)),inAt cs (o+17),inAt cs (o+18)⟩
def okAt(cs:List SV)(i:Nat):Bool:=ckAll cs (i*19) ndCK&&okNd (ndR cs (i*19)) i
def okPg(cs:List SV)(len:Nat):Bool:=(plains cs).isSome&&(decide (1<=len)&&(decide (len<=4096)&&(List.range len).all (okAt cs)))
def kRgt(o:List SV->Nat->Bool):RdF:=fun cs len l ds=>match l with
 | []=>some (.b true,ds,[(o cs len,true)])
 |_=>none
structure OkPg (cs:List SV) (len:Nat):Prop where
 pl:∃vc,plains cs=some vc
 lo:1<=len
 hi:len<=4096
 row:∀i,i<len->ckAll cs (i*19) ndCK=true
 nd:∀i,i<len->okNd (ndR cs (i*19)) i=true
theorem okPg_ok{cs:List SV}{len:Nat}(h:okPg cs len=true):OkPg cs len:=by
 unfold okPg at h;simp only[aTz,decide_eq_true_eq]at h;obtain⟨a,b,c,d⟩:=h;have e:∀i,i<len->okAt cs i=true:=fun i hi=>List.all_eq_true.1 d i (List.mem_range.2 hi);refine⟨Option.isSome_iff_exists.1 a,b,c,fun i hi=> ?_,fun i hi=> ?_⟩
 ·have:=e i hi;unfold okAt at this;rw[aTz]at this;exact this.1
 ·have:=e i hi;unfold okAt at this;rw[aTz]at this;exact this.2
theorem OkPg.at{cs cells:List SV}{off len:Nat}(h:OkPg cs len)(hc:CellsAt cells off cs){i:Nat}(hi:i<len):ckAll cells (off+i*19) ndCK=true/\ndR cells (off+i*19)=ndR cs (i*19):=by obtain⟨a,b⟩:=at_row hc (h.row i hi);refine⟨b,?_⟩;have e:=nd_row cells (off+i*19);rw[a,nd_row cs (i*19)]at e;exact(Option.some.inj e).symm
end Bu
namespace Go.Proofs.YtejcekikbnlllaaGreat
open Go.RowKit Bu Rx
def OCk(v:Nd->Int->Bool):OracleF:=lookO [(120,plainO (kNd v))]
theorem oracleCk:OracleOk prog (OCk okNd):= .cons ndG.of (.nil _)
noncomputable def rC:Code:=bodyOf prog 50
noncomputable def rC0:Code:=seqL rC
noncomputable def rC1:Code:=seqL (seqL (seqR rC))
noncomputable def rBd:Code:=inner (inner (seqR (seqL (seqR rC))))
noncomputable def rTl:Code:=seqR (seqR rC)
theorem rBody:Tryz.f50.body=some rC:=by kernel_rfl
theorem rNt:Tryz.f50.ntmps=25:=by kernel_rfl
theorem rC_cut:rC= .seq rC0 (.seq (.seq rC1 (.block 0 (.loop rBd))) rTl):=by kernel_rfl
def rT(off len cap:Nat)(c:SV)(x:Nat->SV):List SV:=[.ssl 0 off len cap,x 1,x 2,x 3,x 4,.ssl 0 off len cap,.si .i64 len,c,x 8,x 9,x 10,x 11,x 12,x 13,x 14,x 15,x 16,x 17,x 18,x 19,x 20,x 21,x 22,x 23,x 24]
def rS(e:TypeId)(cells:List SV)(off len cap:Nat)(c:SV)(x:Nat->SV)(d:Dec):St:=⟨rT off len cap c x,[⟨e,cells,.num⟩],d,[]⟩
section
variable (v:Nd->Int->Bool) (e:TypeId) (cells:List SV) (off len cap:Nat) (i:Int) (x:Nat->SV)
def rs0:St:=⟨(.ssl 0 off len cap:: [])++List.replicate 24 (.tup []),[⟨e,cells,.num⟩],none,[]⟩
theorem rE0:Lands prog EG (OCk v) 60 rC0 (rs0 e cells off len cap) .normal:=by unfold Lands;kernel_rfl
theorem rO0:(aft prog EG (OCk v) 60 rC0 (rs0 e cells off len cap)).ob=[]:=by kernel_rfl
theorem rE1:Lands prog EG (OCk v) 60 rC1 (aft prog EG (OCk v) 60 rC0 (rs0 e cells off len cap)) .normal:=by unfold Lands;kernel_rfl
theorem rT1:(aft prog EG (OCk v) 60 rC1 (aft prog EG (OCk v) 60 rC0 (rs0 e cells off len cap)))=⟨rT off len cap (.i .i64 0) (fun j=>bif Nat.beq j 2 then .b false else .tup []),[⟨e,cells,.num⟩],none,[]⟩:=by kernel_rfl
theorem rEb:Lands prog EG (OCk v) 60 rBd (rS e cells off len cap (.si .i64 i) x (some [true])) .normal:=by unfold Lands;kernel_rfl
theorem rOb:(aft prog EG (OCk v) 60 rBd (rS e cells off len cap (.si .i64 i) x (some [true]))).ob=[(v (ndR cells (off+i.toNat*19)) i,true),(ckAll cells (off+i.toNat*19) ndCK,true),(ixB i len,true),(decide (i<len),true)]:=by kernel_rfl
noncomputable def rXn(vv:Nat->Value):Nat->SV:=fun j=>((aft prog EG (OCk v) 60 rBd (rS e cells off len cap (.si .i64 i) x (some [true]))).cut 1 vv).T.getD j .np
theorem rCb(vv:Nat->Value):(aft prog EG (OCk v) 60 rBd (rS e cells off len cap (.si .i64 i) x (some [true]))).cut 1 vv=⟨rT off len cap (.si .i64 (IntKind.i64.wrap (i+1))) (rXn v e cells off len cap i x vv),[⟨e,cells,.num⟩],some [],(aft prog EG (OCk v) 60 rBd (rS e cells off len cap (.si .i64 i) x (some [true]))).ob⟩:=by kernel_rfl
theorem rMb:(aft prog EG (OCk v) 60 rBd (rS e cells off len cap (.si .i64 i) x (some [true]))).M.take 1=[⟨e,cells,.num⟩]:=by kernel_rfl
theorem rEx:Lands prog EG (OCk v) 60 rBd (rS e cells off len cap (.si .i64 i) x (some [false])) (.exit 0):=by unfold Lands;kernel_rfl
theorem rXo:aft prog EG (OCk v) 60 rBd (rS e cells off len cap (.si .i64 i) x (some [false]))=⟨rT off len cap (.si .i64 i) (fun j=>bif Nat.beq j 8 then .b false else x j),[⟨e,cells,.num⟩],some [],[(decide (i<len),false)]⟩:=by kernel_rfl
theorem rEt:Lands prog EG (OCk v) 60 rTl (rS e cells off len cap (.si .i64 i) x (some [true,true])) .ret:=by unfold Lands;kernel_rfl
theorem rTo:(aft prog EG (OCk v) 60 rTl (rS e cells off len cap (.si .i64 i) x (some [true,true]))).ob=[(decide ((len:Int)<=4096),true),(decide ((len:Int)>0),true)]:=by kernel_rfl
theorem rTr:resultS prog Tryz.f50 (aft prog EG (OCk v) 60 rTl (rS e cells off len cap (.si .i64 i) x (some [true,true])))=some (.b true):=by kernel_rfl
theorem rTM:(aft prog EG (OCk v) 60 rTl (rS e cells off len cap (.si .i64 i) x (some [true,true]))).M=[⟨e,cells,.num⟩]:=by kernel_rfl
end
theorem rgtG:RdOk prog 50 (kRgt okPg):=by
 intro cs len l ds x ds' ob h ho;unfold kRgt at h;split at h
 ·simp only[sIz,pIz]at h;obtain⟨rfl,_,rfl⟩:=h;have K:=okPg_ok (ho (okPg cs len,true) (List.mem_singleton.2 rfl));obtain⟨vc,hc⟩:=K.pl;refine⟨vc,[],.bool true,hc,rfl,rfl,fun w r off cap hw=> ?_⟩;refine rd_of_runs (d:=none) Tryz.func50 rBody hc (l:=[]) rfl (x:= .b true) rfl (fun e cells off cap hca hid=> ?_) w r off cap hw;have hB:∀{s:St},s.M.take 1=[⟨e,cells,.num⟩]->∀b∈s.M.take 1,idsLts 1 b.cells=true:=fun hs b hb=>by rw[hs,List.mem_singleton]at hb;subst hb;exact idsLts_mono (Nat.zero_le 1) hid
  rw[rC_cut,rNt];show RunsP prog _ (rs0 e cells off len cap) .ret _;have ob0:ObsOk (aft prog EG (OCk okNd) 60 rC0 (rs0 e cells off len cap)).ob:=by rw[rO0];exact obs_nil
  refine Lands.seq goodG oracleCk (rE0 okNd e cells off len cap) ob0 ?_;refine RunsP.seq (Φ:=fun t=>∃y,t=⟨rT off len cap (.si .i64 len) y,[⟨e,cells,.num⟩],none,[]⟩) ?_ fun t ⟨y,ht⟩=> ?_
  ·have ob1:ObsOk (aft prog EG (OCk okNd) 60 rC1 (aft prog EG (OCk okNd) 60 rC0 (rs0 e cells off len cap))).ob:=by rw[rT1];exact obs_nil
   refine Lands.seq goodG oracleCk (rE1 okNd e cells off len cap) ob1 ?_;rw[rT1];refine RunsP.retell (s:=rS e cells off len cap (.si .i64 0) (fun j=>bif Nat.beq j 2 then .b false else .tup []) none) (same_T (fun m=>by simp only[rS,rT,dens,den]) rfl) ?_;refine loop_rows (fun(i:Nat)y=>rS e cells off len cap (.si .i64 (i:Int)) y none) len ?_ ?_ _
   ·intro i y hi;obtain⟨a1,a2⟩:=K.at hca hi;have hob:ObsOk (aft prog EG (OCk okNd) 60 rBd (rS e cells off len cap (.si .i64 i) y (some [true]))).ob:=by rw[rOb];simp only[tN];exact obs_cons (by rw[a2];exact K.nd i hi) (obs_cons a1 (obs_cons (by unfold ixB;simp;omega) (obs_cons (dT (by omega)) obs_nil)))
    refine RunsP.re (d:=some [true]) (o:=[]) (RunsP.round (k:=1) (Lands.runs goodG oracleCk (rEb okNd e cells off len cap i y) hob) (Nat.le_refl _) (hB (rMb okNd e cells off len cap i y)) fun v=> ?_);have hw:IntKind.i64.wrap ((i:Int)+1)=((i+1:Nat):Int):=wrap_s (by have:=K.hi;omega);have hc':=rCb okNd e cells off len cap i y v;rw[hw]at hc';exact⟨rS e cells off len cap (.si .i64 ((i+1:Nat):Int)) (rXn okNd e cells off len cap i y v) none,⟨_,rfl⟩,same_eq (congrArg St.T hc').symm (congrArg St.M hc').symm⟩
   ·intro y;have hob:ObsOk (aft prog EG (OCk okNd) 60 rBd (rS e cells off len cap (.si .i64 len) y (some [false]))).ob:=by rw[rXo];exact obs_cons (dF (by omega)) obs_nil
    refine RunsP.re (d:=some [false]) (o:=[]) (Lands.fin goodG oracleCk (rEx okNd e cells off len cap len y) hob ?_);exact⟨⟨rT off len cap (.si .i64 len) (fun j=>bif Nat.beq j 8 then .b false else y j),[⟨e,cells,.num⟩],none,[]⟩,⟨_,rfl⟩,same_eq (congrArg St.T (rXo okNd e cells off len cap len y)).symm (congrArg St.M (rXo okNd e cells off len cap len y)).symm⟩
  ·subst ht;have hob:ObsOk (aft prog EG (OCk okNd) 60 rTl (rS e cells off len cap (.si .i64 len) y (some [true,true]))).ob:=by rw[rTo];exact obs_cons (dT (by have:=K.hi;omega)) (obs_cons (dT (by have:=K.lo;omega)) obs_nil)
   refine RunsP.re (d:=some [true,true]) (o:=[]) (Lands.all goodG oracleCk (rEt okNd e cells off len cap len y) hob ?_);exact⟨rTr okNd e cells off len cap len y,[],rTM okNd e cells off len cap len y⟩
 ·cases h
end Go.Proofs.YtejcekikbnlllaaGreat
namespace Rx
open Go Go.RowKit
theorem runOps_then{P:Program}{E:ExtF}{call:CallF}(hP:Good P E)(hcall:CallOk P call){ops:Array Oper}{Q:Exit->Act->World->Prop}{r:List Oper}:∀{l:List Oper}{s s':St},runOps P E call ops l s=some s'->ObsOk s'.ob->
  ∀{m:Nms}{a:Act}{w:World},StAt m s a w->(∀m' a' w',StAt m' s' a' w'->Goes m s.M w m' s'.M w'->wpList P ops Q r a' w')->wpList P ops Q (l++r) a w
 | [], s, s', h, ho, m, a, w, hs, hq => by simp only[runOps,sIz]at h;subst h;exact hq m a w hs (Goes.refl m s.M w)
 | o :: l, s, s', h, ho, m, a, w, hs, hq => by
   unfold runOps at h;split at h
   ·rename_i s1 e hst;have ho1:=(runOps_suf h).ok ho;have hput:∀(x:Value),(a.put o.dst x).defers=[]:=fun x=>by cases o.dst<;>exact hs.df
    show wpList P ops Q (o::(l++r)) a w;unfold wpList;unfold stepOp at hst;split at hst
    ·rename_i hw;rw[if_pos (by rw[wantedS_ok hs.tm];exact hw)];split at hst
     ·rename_i e0 he;split at hst
      ·rename_i M' hM;simp only[sIz,pIz]at hst;obtain⟨rfl,_⟩:=hst;left;have hgo:=evOp_ok hP hcall he (ObsOk.left (b:=s.ob) ho1) (m:=m) (w:=w) (L:=liveM s.M) (ρv:=a.eval) hs.mem.ok
        (fun p hp hle=>by
         cases hmp:m p.1 with
         |none=>rfl
         |some r0=>have:=hs.mem.dom _ _ hmp;omega)
        (fun n hn b hb=>hs.mem.blk n b hb) (fun n hn b hb hl=>⟨b,hb,hl⟩) hs.mem.inj (fun y _=>oper_ok hs.tm y)
       refine hgo a _ Q rfl fun v w' hpost=> ?_;obtain⟨m',hp⟩:=hpost;obtain⟨hmem,hgoes⟩:=mem_after hs.mem hp hM;refine runOps_then hP hcall h ho (m:=m') ⟨putT_ok (dens_ext hp.ext hs.tm) hp.val o.dst,hput v,hmem⟩ fun m'' a'' w'' hst' hg'=>hq m'' a'' w'' hst' (hgoes.trans hg')
      ·cases hst
     ·cases hst
    ·rename_i hw;simp only[sIz,pIz]at hst;obtain⟨rfl,_⟩:=hst;rw[if_neg (by rw[wantedS_ok hs.tm];exact hw)];exact runOps_then hP hcall h ho (m:=m) ⟨putT_ok hs.tm (undef_den m) o.dst,hput undef,hs.mem⟩ hq
   ·cases h
theorem MemAt.later{m:Nms}{w w':World}{M:List Blk}(hM:MemAt m w M)(hb:Below w.heap.size w w'):MemAt m w' M/\Goes m M w m M w':=
 ⟨hM.below hb,Ext.refl m,⟨hb.os,hb.tape,hb.output,hb.size,fun r hr _=>hb.block r hr⟩,fun n r h=> .inl h,fun _ _ _ h=>h⟩
def fnR(v:Value):Option (DataW Unit×List MemPlace):=match v with
 | .func (.func g) a b=>if a.size=0/\b.size=0 then some (.lit (.int .i64 (g:Int)),[])else none
 | .nilFunc=>some (.lit (.bool false),[])
 |_=>none
theorem fnR_inv{v:Value}{g:Nat}{ps:List MemPlace}(h:fnR v=some (.lit (.int .i64 (g:Int)),ps)):v= .func (.func g) #[] #[]:=by
 unfold fnR at h;split at h
 ·rename_i f a b;split at h
  ·rename_i hs;simp only[sIz,pIz,DataW.lit.injEq,Lit.int.injEq,Int.natCast_inj]at h;obtain⟨⟨_,rfl⟩,_⟩:=h;rw[Array.eq_empty_of_size_eq_zero hs.1,Array.eq_empty_of_size_eq_zero hs.2]
  ·cases h
 ·simp at h
 ·cases h
theorem wpList_insert_own{P:Program}(w:World){ops:Array Oper}{rest:List Oper}{o:Oper}{a:Act}{Q:Exit->Act->World->Prop}
  (hg:o.guard=none) (hd:o.dst=none) (mm x v:Operand) (t:TypeId) (hop:o.op=Op.insert t mm x v)
  (k e:TypeId) (K:Go.Maps.Keyed P k) (ht:P.underlying t=some (.map k e)) (b n:Nat) (D:DataW Unit)
  (hm:a.eval mm= .map (some b)) (hown:w.ownsMap P k fnR b n D) (hn:n<maxLen) (key val:Value) (kl:Lit) (hx:a.eval x=key) (hv:a.eval v=val) (hkey:keyOf P k key=some kl)
  (d:DataW Unit) (ps:List MemPlace) (hval:fnR val=some (d,ps))
  (hK:∀w',w'.ownsMap P k fnR b (n+1) (D.put kl d)->w.grownBy w' (some b)->wpList P ops Q rest a w') :
  wpList P ops Q (o::rest) a w:=by
 refine wpList_plain hg fun K' hK'=> ?_;obtain⟨w',hrun,r1,r2⟩:=hown.update K ht hn hkey hval;unfold Oper.wp;simp[execOp,hop,hm,hx,hv,hrun,Result.andThen];have h:=hK' (a.put o.dst undef) w';have e:a.put o.dst undef=a:=by rw[hd];rfl
 rw[e]at h;show K' (a.put o.dst undef) w';rw[e];exact h (hK w' r1 r2)
theorem wpList_makeMap{P:Program}(w:World){ops:Array Oper}{rest:List Oper}{o:Oper}{a:Act}{Q:Exit->Act->World->Prop}(hg:o.guard=none)(t:TypeId)(hop:o.op=Op.makeMap t none)
  (hK:wpList P ops Q rest (a.put o.dst (.map (some w.heap.size))) (w.alloc (.map #[] 0))):wpList P ops Q (o::rest) a w:=by
 refine wpList_plain hg fun K' hK'=> ?_;unfold Oper.wp;simp[execOp,hop,run_makeMap,Result.andThen];exact hK' _ _ hK
theorem wpList_lookup_fn{P:Program}(w:World){ops:Array Oper}{rest:List Oper}{o:Oper}{a:Act}{Q:Exit->Act->World->Prop}
  (hg:o.guard=none) (mm x:Operand) (t:TypeId) (hop:o.op=Op.lookup t mm x false)
  (k e:TypeId) (K:Go.Maps.Keyed P k) (ht:P.underlying t=some (.map k e)) (hz:(zeroValue e).run P w= .ok .nilFunc w) (b n:Nat) (D:DataW Unit)
  (hm:a.eval mm= .map (some b)) (hown:w.ownsMap P k fnR b n D) (key:Value) (kl:Lit) (hx:a.eval x=key) (hkey:keyOf P k key=some kl) (g:Nat) (hat:D.atKey kl (.lit (.bool false))= .lit (.int .i64 (g:Int)))
  (hK:wpList P ops Q rest (a.put o.dst (.func (.func g) #[] #[])) w) :
  wpList P ops Q (o::rest) a w:=by
 refine wpList_plain hg fun K' hK'=> ?_;obtain⟨v,ps,hrun,hv⟩:=hown.lookup K ht hz (zd:= .lit (.bool false)) (zp:=[]) rfl hkey;rw[hat]at hv;have e:=fnR_inv hv;subst e;unfold Oper.wp;simp[execOp,hop,hm,hx,hrun,Result.andThen];exact hK' _ _ hK
def tabD(f1 f2 f3 f4:Nat):DataW Unit:=((((DataW.map []).put (.int .u8 1) (.lit (.int .i64 (f1:Int)))).put (.int .u8 2) (.lit (.int .i64 (f2:Int)))).put (.int .u8 3) (.lit (.int .i64 (f3:Int)))).put (.int .u8 4) (.lit (.int .i64 (f4:Int)))
theorem tab_at(f1 f2 f3 f4:Nat):(tabD f1 f2 f3 f4).atKey (.int .u8 1) (.lit (.bool false))= .lit (.int .i64 (f1:Int))/\(tabD f1 f2 f3 f4).atKey (.int .u8 2) (.lit (.bool false))= .lit (.int .i64 (f2:Int))/\(tabD f1 f2 f3 f4).atKey (.int .u8 3) (.lit (.bool false))= .lit (.int .i64 (f3:Int))/\(tabD f1 f2 f3 f4).atKey (.int .u8 4) (.lit (.bool false))= .lit (.int .i64 (f4:Int)):=⟨rfl,rfl,rfl,rfl⟩
theorem tab_made{P:Program}{ops:Array Oper}{rest:List Oper}{o o1 o2 o3 o4:Oper}{Q:Exit->Act->World->Prop}{t k e:TypeId}{d:Tmp}{f1 f2 f3 f4:Nat}(hk:P.underlying k=some (.int .u8))(ht:P.underlying t=some (.map k e))
  (g0:o.guard=none) (g1:o1.guard=none) (g2:o2.guard=none) (g3:o3.guard=none) (g4:o4.guard=none) (h0:o.op=Op.makeMap t none) (hd:o.dst=some d)
  (d1:o1.dst=none) (d2:o2.dst=none) (d3:o3.dst=none) (d4:o4.dst=none)
  (h1:o1.op=Op.insert t (.tmp d) (.const (.int .u8 1)) (.func f1)) (h2:o2.op=Op.insert t (.tmp d) (.const (.int .u8 2)) (.func f2)) (h3:o3.op=Op.insert t (.tmp d) (.const (.int .u8 3)) (.func f3)) (h4:o4.op=Op.insert t (.tmp d) (.const (.int .u8 4)) (.func f4))
  {m:Nms} {s:St} {a:Act} {w:World} (hlt:d<a.tmps.size) (hs:StAt m s a w)
  (hK:∀r a' w',w'.ownsMap P k fnR r 4 (tabD f1 f2 f3 f4)->Below w.heap.size w w'->w.heap.size<=r->StAt m ⟨putT (some d) (.o (.map (some r))) s.T,s.M,s.ds,s.ob⟩ a' w'->Goes m s.M w m s.M w'->wpList P ops Q rest a' w') :
  wpList P ops Q (o::o1::o2::o3::o4::rest) a w:=by
 have K:=Go.Maps.int_keyed hk;refine wpList_makeMap w g0 t h0 ?_;have hev:(a.put o.dst (.map (some w.heap.size))).eval (.tmp d)= .map (some w.heap.size):=by rw[hd];simp[Act.put,Act.eval,hlt]
 have kk:∀{n:Int},(Lit.int .u8 n).wf=true->keyOf P k (.int .u8 n)=some (.int .u8 n):=fun hw=>Go.Maps.keyOf_int_mk hk hw;have big:4<maxLen:=by decide
 refine wpList_insert_own _ g1 d1 _ _ _ t h1 k e K ht _ _ _ hev (World.ownsMap_made w P k fnR) (by omega) _ _ _ rfl rfl (kk (by decide)) _ _ rfl fun w1 own1 gr1=> ?_;refine wpList_insert_own _ g2 d2 _ _ _ t h2 k e K ht _ _ _ hev own1 (by omega) _ _ _ rfl rfl (kk (by decide)) _ _ rfl fun w2 own2 gr2=> ?_;refine wpList_insert_own _ g3 d3 _ _ _ t h3 k e K ht _ _ _ hev own2 (by omega) _ _ _ rfl rfl (kk (by decide)) _ _ rfl fun w3 own3 gr3=> ?_;refine wpList_insert_own _ g4 d4 _ _ _ t h4 k e K ht _ _ _ hev own3 (by omega) _ _ _ rfl rfl (kk (by decide)) _ _ rfl fun w4 own4 gr4=> ?_;have b0:Below w.heap.size w (w.alloc (.map #[] 0)):=(Below.refl _ w).alloc (Nat.le_refl _) _;have st:∀{A B:World},Below w.heap.size w A->A.grownBy B (some w.heap.size)->Below w.heap.size w B:=fun h g=>h.grown g h.size (fun k e=>by cases e;exact Nat.le_refl _);have b4:=st (st (st (st b0 gr1) gr2) gr3) gr4;obtain⟨mm,go⟩:=hs.mem.later b4;refine hK w.heap.size _ w4 own4 b4 (Nat.le_refl _) ⟨?_,?_,mm⟩ go
 ·rw[hd];exact putT_ok hs.tm (x:= .o (.map (some w.heap.size))) (by simp[den]) (some d)
 ·rw[hd];exact hs.df
end Rx
namespace Go.Proofs.YtejcekikbnlllaaGreat
open Go Go.RowKit Go.Shelf
attribute [local go_sem] Oper.semAt_some
@[local go_sem] theorem run_store_float_m{P:Program}{w:World}{a:Addr}{m:Mode}(k:FloatKind)(b:Nat):(store a (.float k b) m).run P w=stored P w a (.float k b) m:=run_store P w a _ m rfl
abbrev Pt3:=Nat×Nat×Nat
abbrev ptE{p:Pt3->Prop}(x:{q:Pt3 //p q}):Array Value:= #[.agg #[.float .f64 x.1.1,.float .f64 x.1.2.1],.float .f64 x.1.2.2]
structure KpL (b1 b2:Nat) (A B:World):Prop where
 size:A.heap.size<=B.heap.size
 keep:∀r o,r≠b1->r≠b2->A.heap[r]? =some o->o.isCells=true->B.heap[r]? =some o
theorem KpL.cell{b1 b2:Nat}{A B:World}(h:KpL b1 b2 A B){r i:Nat}{v:Value}(h1:r≠b1)(h2:r≠b2)(hc:A.cell? ⟨r,i,none⟩=some v):B.cell? ⟨r,i,none⟩=some v:=by obtain⟨o,ho,hk⟩:=cells_of_cell hc;have:=h.keep r o h1 h2 ho hk;exact(World.cell?_of_block (w:=A) (w':=B) (a:=⟨r,i,none⟩) (by show B.heap[r]? =A.heap[r]?;rw[this,ho])).trans hc
theorem KpL.trans{b1 b2:Nat}{A B C:World}(h:KpL b1 b2 A B)(k:KpL b1 b2 B C):KpL b1 b2 A C:=⟨Nat.le_trans h.size k.size,fun r o h1 h2 h3 h4=>k.keep r o h1 h2 (h.keep r o h1 h2 h3 h4) h4⟩
theorem KpL.put{b1 b2:Nat}(W:World)(l:Nat)(o o':Obj)(h:W.heap[l]? =some o)(hc:o.isCells=false):KpL b1 b2 W (W.putObj l o'):=by
 have g:=grownBy_putObj' W l o';refine⟨g.size,fun r q _ _ hr hq=> ?_⟩;have hl:r≠l:=by rintro rfl;rw[h]at hr;cases hr;rw[hc]at hq;cases hq
 rw[g.block r (Array.getElem?_eq_some_iff.1 hr).1 (by simp[hl])];exact hr
set_option maxHeartbeats 2000000 in
theorem parts1_in{p:Pt3->Prop}(F:Fence)(n:Nat)(hf:F.fn 347)(hro:F.round=none)(hn:1<=n)(l Bs b cap b1 b2:Nat)(e:Nat->{q:Pt3 //p q})
  (g0:(e 0).1.2.2=13830554455654793216) (g1:(e 1).1.2.2=13830554455654793216) (g2:(e 2).1.2.2=0) (g3:(e 3).1.2.2=13830554455654793216) (g4:(e 4).1.2.2=13830554455654793216) (g5:(e 5).1.2.2=0)
  (J Jx:List {q:Pt3 //p q}->World->Prop) (W:World) (hJ:AbidesFrom W.heap.size J)
  (hY:∀pre x W1,J pre W1->pre.length<6->YieldAt F (n-1) prog l (ptE x) W1 fun e W'=>
   (e= .returned (.bool true)/\J (pre++ [x]) W'/\KpL b1 b2 W1 W')\/(e= .returned (.bool false)/\Jx (pre++ [x]) W'))
  (hb1:b≠b1) (hb2:b≠b2) (h1:b1<W.heap.size) (h2:b2<W.heap.size)
  (hBs:W.cell? ⟨Bs,0,none⟩=some (.slice (some ⟨b,0,none⟩) 2 cap))
  (hc:∀j,j<6->W.cell? ⟨b,2*j,none⟩=some (.float .f64 (e j).1.1)/\W.cell? ⟨b,2*j+1,none⟩=some (.float .f64 (e j).1.2.1)) (h0:J [] W) :
  CallsIn F n prog 347 #[.func (.yield l) #[] #[],.pointer (some ⟨Bs,0,none⟩)] W fun r W'=>(∃v,r= .returned v)/\((∃xs,True/\J xs W')\/(∃pre,True/\Jx pre W')):=by
 refine callsIn_of_wp Tryz.func347 rfl hf ?_ hro;simp only[Tryz.ntmps347,List.size_toArray,List.length_cons,List.length_nil,Nat.reduceAdd,Nat.reduceSub,Array.replicate_succ,Array.replicate_zero,List.push_toArray,List.append_toArray,List.nil_append,List.cons_append]
 gi_wp2
 gi_loopw [7] (fun i wr=>∃k:Nat,k<=2/\i= .int .i64 k/\J ((List.range (3*k)).map e) wr/\(∀j,j<6->wr.cell? ⟨b,2*j,none⟩=some (.float .f64 (e j).1.1)/\wr.cell? ⟨b,2*j+1,none⟩=some (.float .f64 (e j).1.2.1))/\W.heap.size<=wr.heap.size)
  (fun i _=>2-(intOf i).toNat)
 case atStart=>exact⟨0,by omega,rfl,h0,hc,Nat.le_refl _⟩
 case round=>
  obtain⟨k,hk,rfl,hJs,hcs,hsz⟩:=hrel;obtain⟨c00,c01⟩:=hcs 0 (by omega);obtain⟨c10,c11⟩:=hcs 1 (by omega);obtain⟨c20,c21⟩:=hcs 2 (by omega);obtain⟨c30,c31⟩:=hcs 3 (by omega);obtain⟨c40,c41⟩:=hcs 4 (by omega);obtain⟨c50,c51⟩:=hcs 5 (by omega);simp only[Nat.mul_zero,Nat.mul_one,Nat.zero_add,Nat.reduceMul,Nat.reduceAdd]at c00 c01 c10 c11 c20 c21 c30 c31 c40 c41 c50 c51;have hk':k=0\/k=1\/k=2:=by omega
  rcases hk' with rfl|rfl|rfl
  ·have hV:∃V,V=wr.alloc (.cells #[.float .f64 (e 0).1.1,.float .f64 (e 0).1.2.1,.float .f64 (e 1).1.1,.float .f64 (e 1).1.2.1,.float .f64 (e 2).1.1,.float .f64 (e 2).1.2.1] 35):=⟨_,rfl⟩;obtain⟨V,hV⟩:=hV;have hJ0:J [] V:=by rw[hV];exact hJ _ wr _ none hJs (World.grownBy_alloc wr _ none) (fun r e=>by cases e)
   have sV:V.heap.size=wr.heap.size+1:=by rw[hV];exact World.size_alloc _ _
   have d10:V.cell? ⟨wr.heap.size,2,none⟩=some (.float .f64 (e 1).1.1):=by rw[hV];simp
   have d11:V.cell? ⟨wr.heap.size,3,none⟩=some (.float .f64 (e 1).1.2.1):=by rw[hV];simp
   have d20:V.cell? ⟨wr.heap.size,4,none⟩=some (.float .f64 (e 2).1.1):=by rw[hV];simp
   have d21:V.cell? ⟨wr.heap.size,5,none⟩=some (.float .f64 (e 2).1.2.1):=by rw[hV];simp
   have hcV:∀j,j<6->V.cell? ⟨b,2*j,none⟩=some (.float .f64 (e j).1.1)/\V.cell? ⟨b,2*j+1,none⟩=some (.float .f64 (e j).1.2.1):=by intro j hj;rw[hV];exact⟨cell_kept (hcs j hj).1 (World.grownBy_alloc wr _ none) (fun r e=>by cases e),cell_kept (hcs j hj).2 (World.grownBy_alloc wr _ none) (fun r e=>by cases e)⟩
   obtain⟨f1,t1,a1,y1,hy1,hR1⟩:=hY _ (e 0) V hJ0 (by simp)
   dsimp only[ptE]at hy1
   rw[g0,hV]at hy1
   gi_wp2
   rw[<-hV];refine hR1.mono ?_;rintro r W1 (⟨rfl,hJ1,hk1⟩|⟨rfl,hx1⟩)
   ·have m10:=hk1.cell (r:=wr.heap.size) (by omega) (by omega) d10;have m11:=hk1.cell (r:=wr.heap.size) (by omega) (by omega) d11;obtain⟨f2,t2,a2,y2,hy2,hR2⟩:=hY _ (e 1) W1 hJ1 (by simp)
    dsimp only[ptE]at hy2
    rw[g1]at hy2
    gi_wp2
    refine hR2.mono ?_;rintro r W2 (⟨rfl,hJ2,hk2⟩|⟨rfl,hx2⟩)
    ·have hk12:=hk1.trans hk2;have m20:=hk12.cell (r:=wr.heap.size) (by omega) (by omega) d20;have m21:=hk12.cell (r:=wr.heap.size) (by omega) (by omega) d21;obtain⟨f3,t3,a3,y3,hy3,hR3⟩:=hY _ (e 2) W2 hJ2 (by simp)
     dsimp only[ptE]at hy3
     rw[g2]at hy3
     gi_wp2
     refine hR3.mono ?_;rintro r W3 (⟨rfl,hJ3,hk3⟩|⟨rfl,hx3⟩)
     ·have hk13:=hk12.trans hk3;have hs3:=hk13.size
      gi_wp2
      go_roundw
      case rel=>exact⟨1,by omega,by simp,hJ3,fun j hj=>⟨hk13.cell hb1 hb2 (hcV j hj).1,hk13.cell hb1 hb2 (hcV j hj).2⟩,by omega⟩
      case measure=>simp[intOf]
     ·gi_wp2
      refine bodyPost_ret (results_none rfl _ _ _) rfl ?_;exact⟨⟨_,rfl⟩,.inr ⟨_,trivial,hx3⟩⟩
    ·gi_wp2
     refine⟨fun _ h=>(by cases h),?_⟩
     gi_wp2
     refine bodyPost_ret (results_none rfl _ _ _) rfl ?_;exact⟨⟨_,rfl⟩,.inr ⟨_,trivial,hx2⟩⟩
   ·gi_wp2
    refine⟨fun _ h=>(by cases h),?_⟩
    gi_wp2
    refine⟨fun _ h=>(by cases h),?_⟩
    gi_wp2
    refine bodyPost_ret (results_none rfl _ _ _) rfl ?_;exact⟨⟨_,rfl⟩,.inr ⟨_,trivial,hx1⟩⟩
  ·have hV:∃V,V=wr.alloc (.cells #[.float .f64 (e 3).1.1,.float .f64 (e 3).1.2.1,.float .f64 (e 4).1.1,.float .f64 (e 4).1.2.1,.float .f64 (e 5).1.1,.float .f64 (e 5).1.2.1] 35):=⟨_,rfl⟩;obtain⟨V,hV⟩:=hV;have hJ0:J [e 0,e 1,e 2] V:=by rw[hV];exact hJ _ wr _ none hJs (World.grownBy_alloc wr _ none) (fun r e=>by cases e)
   have sV:V.heap.size=wr.heap.size+1:=by rw[hV];exact World.size_alloc _ _
   have d10:V.cell? ⟨wr.heap.size,2,none⟩=some (.float .f64 (e 4).1.1):=by rw[hV];simp
   have d11:V.cell? ⟨wr.heap.size,3,none⟩=some (.float .f64 (e 4).1.2.1):=by rw[hV];simp
   have d20:V.cell? ⟨wr.heap.size,4,none⟩=some (.float .f64 (e 5).1.1):=by rw[hV];simp
   have d21:V.cell? ⟨wr.heap.size,5,none⟩=some (.float .f64 (e 5).1.2.1):=by rw[hV];simp
   have hcV:∀j,j<6->V.cell? ⟨b,2*j,none⟩=some (.float .f64 (e j).1.1)/\V.cell? ⟨b,2*j+1,none⟩=some (.float .f64 (e j).1.2.1):=by intro j hj;rw[hV];exact⟨cell_kept (hcs j hj).1 (World.grownBy_alloc wr _ none) (fun r e=>by cases e),cell_kept (hcs j hj).2 (World.grownBy_alloc wr _ none) (fun r e=>by cases e)⟩
   obtain⟨f1,t1,a1,y1,hy1,hR1⟩:=hY _ (e 3) V hJ0 (by simp)
   dsimp only[ptE]at hy1
   rw[g3,hV]at hy1
   gi_wp2
   rw[<-hV];refine hR1.mono ?_;rintro r W1 (⟨rfl,hJ1,hk1⟩|⟨rfl,hx1⟩)
   ·have m10:=hk1.cell (r:=wr.heap.size) (by omega) (by omega) d10;have m11:=hk1.cell (r:=wr.heap.size) (by omega) (by omega) d11;obtain⟨f2,t2,a2,y2,hy2,hR2⟩:=hY _ (e 4) W1 hJ1 (by simp)
    dsimp only[ptE]at hy2
    rw[g4]at hy2
    gi_wp2
    refine hR2.mono ?_;rintro r W2 (⟨rfl,hJ2,hk2⟩|⟨rfl,hx2⟩)
    ·have hk12:=hk1.trans hk2;have m20:=hk12.cell (r:=wr.heap.size) (by omega) (by omega) d20;have m21:=hk12.cell (r:=wr.heap.size) (by omega) (by omega) d21;obtain⟨f3,t3,a3,y3,hy3,hR3⟩:=hY _ (e 5) W2 hJ2 (by simp)
     dsimp only[ptE]at hy3
     rw[g5]at hy3
     gi_wp2
     refine hR3.mono ?_;rintro r W3 (⟨rfl,hJ3,hk3⟩|⟨rfl,hx3⟩)
     ·have hk13:=hk12.trans hk3;have hs3:=hk13.size
      gi_wp2
      go_roundw
      case rel=>exact⟨2,by omega,by simp,hJ3,fun j hj=>⟨hk13.cell hb1 hb2 (hcV j hj).1,hk13.cell hb1 hb2 (hcV j hj).2⟩,by omega⟩
      case measure=>simp[intOf]
     ·gi_wp2
      refine bodyPost_ret (results_none rfl _ _ _) rfl ?_;exact⟨⟨_,rfl⟩,.inr ⟨_,trivial,hx3⟩⟩
    ·gi_wp2
     refine⟨fun _ h=>(by cases h),?_⟩
     gi_wp2
     refine bodyPost_ret (results_none rfl _ _ _) rfl ?_;exact⟨⟨_,rfl⟩,.inr ⟨_,trivial,hx2⟩⟩
   ·gi_wp2
    refine⟨fun _ h=>(by cases h),?_⟩
    gi_wp2
    refine⟨fun _ h=>(by cases h),?_⟩
    gi_wp2
    refine bodyPost_ret (results_none rfl _ _ _) rfl ?_;exact⟨⟨_,rfl⟩,.inr ⟨_,trivial,hx1⟩⟩
  ·gi_wp2
   go_end0
   exact⟨⟨_,rfl⟩,.inl ⟨_,trivial,hJs⟩⟩
end Go.Proofs.YtejcekikbnlllaaGreat
namespace Go.Proofs.YtejcekikbnlllaaGreat
open Go Go.RowKit Go.Shelf Bu Rx
attribute [local go_sem] Oper.semAt_some
@[local go_sem] theorem run_store_float_n{P:Program}{w:World}{a:Addr}{m:Mode}(k:FloatKind)(b:Nat):(store a (.float k b) m).run P w=stored P w a (.float k b) m:=run_store P w a _ m rfl
set_option maxHeartbeats 1000000 in
theorem parts_in(F:Fence)(n:Nat)(h:F.fn 332)(hro:F.round=none)(a:Option Addr)(len cap:Nat)(w:World) :
  CallsIn F n prog 332 #[.slice a len cap] w fun e w'=>e= .returned (.func (.func 347) #[] #[.pointer (some ⟨w.heap.size,0,none⟩)])/\w'=w.alloc (.cells #[.slice a len cap] 205):=by
 refine callsIn_of_wp Tryz.func332 rfl h ?_ hro;simp only[Tryz.ntmps332,List.size_toArray,List.length_cons,List.length_nil,Nat.reduceAdd,Nat.reduceSub,Array.replicate_succ,Array.replicate_zero,List.push_toArray,List.append_toArray,List.nil_append,List.cons_append]
 gi_wp2
 go_ret
 exact⟨rfl,rfl⟩
def okP(q:Pt3):Prop:=∃a b c:F,q.1=a.b/\q.2.1=b.b/\q.2.2=c.b/\rt ⟨a,b⟩=true/\c.k<=a.k/\b.k<=one64.k
theorem right_pt{q:Pt3}(h:okP q)(w:World):Calls prog 67 #[.agg #[.float .f64 q.1,.float .f64 q.2.1]] w fun e w'=>e= .returned (.bool true)/\Below w.heap.size w w':=by obtain⟨a,b,c,h1,h2,_,hr,_⟩:=h;obtain⟨vs,v,e1,e2,k⟩:=irtK [.agg [.fl a,.fl b]] (some [true]) (.b true) (some []) [(rt ⟨a,b⟩,true)] rfl (fun p hp=>by rw[List.mem_singleton.1 hp];exact hr);have e1':vs=[.agg #[.float .f64 a.b,.float .f64 b.b]]:=(Option.some.inj e1).symm;have e2':v= .bool true:=(Option.some.inj e2).symm;subst e1';subst e2';rw[h1,h2];exact k w
theorem KpL.alloc{b1 b2:Nat}(W:World)(o:Obj):KpL b1 b2 W (W.alloc o):=⟨by rw[World.size_alloc];omega,fun r q _ _ hr _=>(Below.heap_alloc W _ r (Array.getElem?_eq_some_iff.1 hr).1).trans hr⟩
theorem grown_of_below{W W1:World}(h:Below W.heap.size W W1):W.grownBy W1 none:=⟨h.os,h.tape,h.output,h.size,fun k hk _=>h.block k hk⟩
structure Dirs (W:World) (b:Nat) (e:Nat->{q:Pt3 //okP q}):Prop where
 c:∀j,j<6->W.cell? ⟨b,2*j,none⟩=some (.float .f64 (e j).1.1)/\W.cell? ⟨b,2*j+1,none⟩=some (.float .f64 (e j).1.2.1)
 g0:(e 0).1.2.2=13830554455654793216
 g1:(e 1).1.2.2=13830554455654793216
 g2:(e 2).1.2.2=0
 g3:(e 3).1.2.2=13830554455654793216
 g4:(e 4).1.2.2=13830554455654793216
 g5:(e 5).1.2.2=0
theorem Dirs.below{n₀:Nat}{A B:World}{b:Nat}{e:Nat->{q:Pt3 //okP q}}(h:Dirs A b e)(hb:b<n₀)(k:Below n₀ A B):Dirs B b e:=
 ⟨fun j hj=>⟨(k.cell (p:=⟨b,2*j,none⟩) hb).trans (h.c j hj).1,(k.cell (p:=⟨b,2*j+1,none⟩) hb).trans (h.c j hj).2⟩,h.g0,h.g1,h.g2,h.g3,h.g4,h.g5⟩
theorem parts_stops(F:Fence)(n:Nat)(hf:F.fn 347)(hro:F.round=none)(hn:1<=n)(Bs b cap b1 b2:Nat)(e:Nat->{q:Pt3 //okP q})(w:World)(hb1:b≠b1)(hb2:b≠b2)(h1:b1<w.heap.size)(h2:b2<w.heap.size)(hB:Bs<w.heap.size)(hb:b<w.heap.size)
  (hBs:w.cell? ⟨Bs,0,none⟩=some (.slice (some ⟨b,0,none⟩) 2 cap)) (hD:Dirs w b e) :
  SeqStopsK F n prog 347 #[.pointer (some ⟨Bs,0,none⟩)] (fun x:{q:Pt3 //okP q}=>ptE x) (KpL b1 b2) (fun _=>True) (fun _=>True) 6 w:=fun l J Jx W hW hJ _ hY h0=>by
 have hD':=hD.below hb hW;exact parts1_in F n hf hro hn l Bs b cap b1 b2 e hD'.g0 hD'.g1 hD'.g2 hD'.g3 hD'.g4 hD'.g5 J Jx W hJ hY hb1 hb2 (Nat.lt_of_lt_of_le h1 hW.size) (Nat.lt_of_lt_of_le h2 hW.size) ((hW.cell (p:=⟨Bs,0,none⟩) hB).trans hBs) hD'.c h0
theorem after_right{W W1:World}{B1 B2 Bx:Nat}{t t':TypeId}{u v x y:Value}(h1:Boxed W B1 t u)(h2:Boxed W B2 t v)(h3:W.heap[Bx]? =some (.cells #[x,y] t' (0,0)))(hb:Below W.heap.size W W1) :
  Boxed W1 B1 t u/\Boxed W1 B2 t v/\W1.heap[Bx]? =some (.cells #[x,y] t' (0,0))/\W1.cell? ⟨B1,0,none⟩=some u/\W1.frozen? ⟨B1,0,none⟩=false/\W1.cell? ⟨B2,0,none⟩=some v/\W1.frozen? ⟨B2,0,none⟩=false/\W1.cell? ⟨Bx,0,none⟩=some x/\W1.cell? ⟨Bx,1,none⟩=some y:=by
 have a:=h1.kept (grown_of_below hb) (by simp);have b:=h2.kept (grown_of_below hb) (by simp);have c:=(hb.block Bx (Array.getElem?_eq_some_iff.1 h3).1).trans h3;exact⟨a,b,c,a.cell,a.frozen,b.cell,b.frozen,by simp[World.cell?,c],by simp[World.cell?,c]⟩
theorem body_end{w W W1:World}{n₀ B B1 B2:Nat}{t:TypeId}{u v:Value}(h1:Boxed W1 B1 t u)(h2:Boxed W1 B2 t v)(hne:B1≠B2)(hb:Below W.heap.size W W1)(hw:Below n₀ w W)(hn:n₀<=W.heap.size)(l1:n₀<=B1)(l2:n₀<=B2)(u' v':Value) :
  KeepsFrom B W ((W1.setCell ⟨B1,0,none⟩ u').setCell ⟨B2,0,none⟩ v')/\KpL B1 B2 W ((W1.setCell ⟨B1,0,none⟩ u').setCell ⟨B2,0,none⟩ v')/\(Boxed ((W1.setCell ⟨B1,0,none⟩ u').setCell ⟨B2,0,none⟩ v') B1 t u'/\Boxed ((W1.setCell ⟨B1,0,none⟩ u').setCell ⟨B2,0,none⟩ v') B2 t v')/\Below n₀ w ((W1.setCell ⟨B1,0,none⟩ u').setCell ⟨B2,0,none⟩ v'):=by
 have k1:KeepsOthers W W1:=KeepsOthers.of_grownBy (grown_of_below hb) (fun j o h=>by cases h);refine⟨((k1.trans (KeepsOthers.setCell _ _ _)).trans (KeepsOthers.setCell _ _ _)).from _,⟨?_,fun r o q1 q2 hr ho=> ?_⟩,⟨(h1.set u').other hne v',(h2.other (Ne.symm hne) u').set v'⟩,?_⟩
 ·have a:=(grownBy_setCell' W1 B1 u').size;have b:=(grownBy_setCell' (W1.setCell ⟨B1,0,none⟩ u') B2 v').size;have c:=hb.size;omega
 ·have g0:=Array.getElem?_eq_some_iff.1 hr;have a:=(hb.block r g0.1).trans hr;have b:=((grownBy_setCell' W1 B1 u').block r (Nat.lt_of_lt_of_le g0.1 hb.size) (by simp[q1])).trans a;exact((grownBy_setCell' (W1.setCell ⟨B1,0,none⟩ u') B2 v').block r (Array.getElem?_eq_some_iff.1 b).1 (by simp[q2])).trans b
 ·exact((hw.trans (hb.mono hn)).setCell (p:=⟨B1,0,none⟩) l1 _).setCell (p:=⟨B2,0,none⟩) l2 _
theorem ge_pt{q:Pt3}(h:okP q):(FloatKind.f64.format.order q.1 q.2.2==some .gt||FloatKind.f64.format.order q.1 q.2.2==some .eq)=true/\(FloatKind.f64.format.order q.2.1 4607182418800017408==some .lt||FloatKind.f64.format.order q.2.1 4607182418800017408==some .eq)=true:=by
 obtain⟨a,b,c,h1,h2,h3,_,h4,h5⟩:=h;have e4:FloatKind.f64.format=Ieee.double:=rfl;have e1:(4607182418800017408:Nat)=one64.b:=by decide+kernel
 rw[h1,h2,h3,e4,e1,Bu.order_gt,Bu.order_eq,Bu.order_lt,Bu.order_eq];constructor<;>(simp;omega)
set_option maxHeartbeats 4000000 in
theorem look_in(F:Fence)(n:Nat)(h1f:F.fn 298)(h2f:F.fn 332)(h3f:F.fn 347)(h4f:F.fn 67)(hro:F.round=none)(hn:6<=n)
  (hR:∀(m:Nat)(q:Pt3)(w:World),okP q->CallsIn F m prog 67 #[.agg #[.float .f64 q.1,.float .f64 q.2.1]] w fun e w'=>e= .returned (.bool true)/\Below w.heap.size w w')
  (b cap:Nat) (e:Nat->{q:Pt3 //okP q}) (w:World) (hb:b<w.heap.size) (hD:Dirs w b e) :
  CallsIn F n prog 298 #[.slice (some ⟨b,0,none⟩) 2 cap] w fun e W'=>e= .returned (.int .i64 0)/\Below w.heap.size w W':=by
 have h1:1<=n:=by omega
 refine callsIn_of_wp_marks Tryz.func298 rfl h1f ?_ hro;simp only[Tryz.ntmps298,List.size_toArray,List.length_cons,List.length_nil,Nat.reduceAdd,Nat.reduceSub,Array.replicate_succ,Array.replicate_zero,List.push_toArray,List.append_toArray,List.nil_append,List.cons_append]
 gi_wp2_with (gi_at_call 332;refine(parts_in F (n-1) h2f hro _ _ _ _).mono ?_;rintro e w' ⟨rfl,rfl⟩)
 have bR:=((Boxed.new w 4 (.bool true)).alloc (.cells #[.bool true] 4)).alloc (.cells #[.slice (some ⟨b,0,none⟩) 2 cap] 205);have bM:=(Boxed.new (w.alloc (.cells #[.bool true] 4)) 4 (.bool true)).alloc (.cells #[.slice (some ⟨b,0,none⟩) 2 cap] 205);have bL:=Boxed.new ((w.alloc (.cells #[.bool true] 4)).alloc (.cells #[.bool true] 4)) 205 (.slice (some ⟨b,0,none⟩) 2 cap);simp only[World.size_alloc]at bM bL;have hB0:Below w.heap.size w (((w.alloc (.cells #[.bool true] 4)).alloc (.cells #[.bool true] 4)).alloc (.cells #[.slice (some ⟨b,0,none⟩) 2 cap] 205)):=(((Below.refl _ w).alloc (Nat.le_refl _) _).alloc (by simp) _).alloc (by simp;omega) _;have hsz:(((w.alloc (.cells #[.bool true] 4)).alloc (.cells #[.bool true] 4)).alloc (.cells #[.slice (some ⟨b,0,none⟩) 2 cap] 205)).heap.size=w.heap.size+3:=by simp
 obtain⟨W0,hW0⟩:∃W0,((w.alloc (.cells #[.bool true] 4)).alloc (.cells #[.bool true] 4)).alloc (.cells #[.slice (some ⟨b,0,none⟩) 2 cap] 205)=W0:=⟨_,rfl⟩;rw[hW0]at bR bM bL hB0 hsz ⊢;clear hW0;refine wpIn_rangeFunc_ownH hro h1 (gf:=347) (lb:= #[.pointer (some ⟨w.heap.size+1+1,0,none⟩)]) rfl h3f (enters_of Tryz.func347 (by kernel_rfl) rfl)
  (parts_stops F (n-1) h3f hro (by omega) (w.heap.size+1+1) b cap w.heap.size (w.heap.size+1) e W0 (by omega) (by omega) (by omega) (by omega) (by omega) (by omega) bL.cell (hD.below hb hB0)) (fun h k=>h.trans k) (fun W l o o' _ h hc _=>KpL.put W l o o' h hc) (Below.refl _ _) (fun _=>rfl)
  (fun pre W=>(Boxed W w.heap.size 4 (.bool true)/\Boxed W (w.heap.size+1) 4 (.bool true))/\Below w.heap.size w W)
  (fun _ _ _=>False)
  (OwnFrom.and (OwnFrom.and (Own.from (boxed_own _ _ _) _) (Own.from (boxed_own _ _ _) _)) (ownFrom_below (Nat.le_refl _) (by omega)))
  (fun _ _ _ _ _ hs _ _=>hs)
  ⟨⟨bR,bM⟩,hB0⟩
  (fun x a' W=>∃Bx,w.heap.size+1<Bx/\W.heap[Bx]? =some (.cells #[.float .f64 x.1.1,.float .f64 x.1.2.1] 33 (0,0))/\a'={tmps:= #[.slice (some ⟨b,0,none⟩) 2 cap,undef,.int .i64 0,.pointer (some ⟨w.heap.size,0,none⟩),.pointer (some ⟨w.heap.size+1,0,none⟩),.pointer (some ⟨Bx,0,none⟩),.float .f64 x.1.2.2,.slice (some ⟨b,0,none⟩) 2 cap,.func (.func 347) #[] #[.pointer (some ⟨w.heap.size+1+1,0,none⟩)],.agg #[.float .f64 x.1.1,.float .f64 x.1.2.1],.float .f64 x.1.2.2,undef,undef,undef,undef,undef,undef,undef,undef,undef,undef,undef,undef,undef,undef,undef,undef,undef,undef,undef,undef,undef,undef,undef],defers:=[]})
  (fun x a' _ X Y row hs hg hr=>by obtain⟨Bx,q1,q2,q3⟩:=hs;refine⟨Bx,q1,(hg.block Bx (Array.getElem?_eq_some_iff.1 q2).1 (fun h=> ?_)).trans q2,q3⟩;obtain⟨_,o,ho,hc⟩:=hr Bx h.symm;rw[q2]at ho;cases ho;cases hc)
  ?assign ?body ?done ?stop
 case assign=>
  rintro l pre x W K ⟨⟨bR1,bM1⟩,hB1⟩ hK
  gi_wp2
  exact hK _ _ ((KeepsOthers.alloc _ _).from _) (KpL.alloc _ _) ⟨⟨bR1.alloc _,bM1.alloc _⟩,hB1.alloc hB1.size _⟩ ⟨W.heap.size,bM1.lt,World.alloc_heap_new W _,rfl⟩
 case body=>
  rintro l pre x a' W hl ⟨r,hr⟩ ⟨⟨bR1,bM1⟩,hB1⟩ ⟨Bx,hBx,bX,rfl⟩ hlt;have cR:=bR1.cell;have cM:=bM1.cell;have cX0:W.cell? ⟨Bx,0,none⟩=some (.float .f64 x.1.1):=by simp[World.cell?,bX]
  have cX1:W.cell? ⟨Bx,1,none⟩=some (.float .f64 x.1.2.1):=by simp[World.cell?,bX]
  have h1':1<=n-1-1:=by omega
  have n1:¬Bx=w.heap.size:=by omega
  have n2:¬Bx=w.heap.size+1:=by omega
  gi_wp2_with (gi_at_call 67;refine(CallsIn.inRound l (hR (n-1-1-1) x.1 _ x.2)).mono ?_;rintro e w' ⟨rfl,hw'⟩;obtain⟨bR2,bM2,bX2,cR2,fR2,cM2,fM2,dX0,dX1⟩:=after_right bR1 bM1 bX hw')
  all_goals (have hg:=ge_pt x.2)
  all_goals (have hle:=bM1.lt)
  all_goals first
   |(exfalso;simp_all;done)
   |(rw[hg.1,hg.2];exact body_end bR2 bM2 (by omega) hw' hB1 (by omega) (by omega) (by omega) _ _)
   |exact body_end bR2 bM2 (by omega) hw' hB1 (by omega) (by omega) (by omega) _ _
 case done=>
  rintro D xs W hD2 _ ⟨⟨bR1,bM1⟩,hB1⟩ hK;have cR:=bR1.cell;have cM:=bM1.cell
  gi_wp2
  refine⟨by simp,.inl ⟨_,_,rfl,run_takeDeferred hK,?_⟩⟩;exact⟨_,results_tmp rfl _ _ _,rfl,hB1.trans (belowK_b (w:=w) (Nat.le_refl _) W D _ _ (by omega) hK rfl rfl)⟩
 case stop=>
  rintro D c pre W _ _ h _;exact h.elim
end Go.Proofs.YtejcekikbnlllaaGreat
namespace Bu
open Rx Go
def z64:F:=toF 0
def PIc:I:=⟨pi64,(nextF pi64 true).1⟩
structure V3 where
 x:I
 y:I
 z:I
def V3.zero:V3:=⟨I.zero,I.zero,I.zero⟩
def V3.sv(v:V3):SV:= .agg [.fl v.x.lo,.fl v.x.hi,.fl v.y.lo,.fl v.y.hi,.fl v.z.lo,.fl v.z.hi]
def kAbs:List SV->Dec->Option (SV×Dec×Obs)
 | [.fl x],ds=>some (.fl x.abs,ds,[])
 |_,_=>none
def unP(x y z:F):List Op:=[.num (x),.num (y),.num (z),.sqr 2,.sqr 2,.add 1 0,.sqr 3,.add 1 0,.sqrt 0,.div 8 0,.wi 0,.div 9 2,.wi 0,.div 10 4,.wi 0]
def ggD:List Op:=[.sqr 1,.lit (PIc),.num (one64),.sub 2 0,.sqr 4,.mul 1 0,.num (one64),.add 1 0,.sqr 0,.mul 7 0,.div 9 0]
def gg1:List Op:=[.sqr 1,.num (one64),.sqr 2,.num (one64),.sub 0 1,.div 0 2,.num (q2),.num (one64),.mul 7 2,.add 1 0,.sqrt 0,.num (one64),.sub 1 0,.mul 6 0,.hid 0,.add 13 0,.num (one64),.div 0 1]
def drP1:List Op:=[.num (one64),.num (z64),.mul 5 8,.mul 6 8,.num (one64),.sqr 2,.sqr 2,.add 1 0,.sqr 12,.add 1 0,.sqrt 0,.div 6 0,.mul 0 9,.mul 1 9,.mul 2 18,.kept mone64 one64 2,.kept mone64 one64 2,.kept z64 one64 2,.sqr 2,.sqr 2,.add 1 0]
def drTa:List Op:=[.num (one64),.num (z64),.mul 5 8,.mul 6 8,.num (one64),.sqr 2,.sqr 2,.add 1 0,.sqr 12,.add 1 0,.sqrt 0,.div 6 0,.mul 0 9,.mul 1 9,.mul 2 18,.kept mone64 one64 2,.kept mone64 one64 2,.kept z64 one64 2,.sqr 2,.sqr 2,.add 1 0,.lit (I.zero),.lit (I.zero),.lit (I.zero),.num (one64),.lit (I.zero),.lit (I.zero),.lit (I.zero)]
def drTb:List Op:=[.num (one64),.num (z64),.mul 5 8,.mul 6 8,.num (one64),.sqr 2,.sqr 2,.add 1 0,.sqr 12,.add 1 0,.sqrt 0,.div 6 0,.mul 0 9,.mul 1 9,.mul 2 18,.kept mone64 one64 2,.kept mone64 one64 2,.kept z64 one64 2,.sqr 2,.sqr 2,.add 1 0,.sqrt 0,.neg 5,.div 0 1,.kept mone64 one64 0,.div 9 3,.kept mone64 one64 0,.lit (I.zero)]
def drA:List Op:=[.num (one64),.num (z64),.mul 5 8,.mul 6 8,.num (one64),.sqr 2,.sqr 2,.add 1 0,.sqr 12,.add 1 0,.sqrt 0,.div 6 0,.mul 0 9,.mul 1 9,.mul 2 18,.kept mone64 one64 2,.kept mone64 one64 2,.kept z64 one64 2,.sqr 2,.sqr 2,.add 1 0,.lit (I.zero),.lit (I.zero),.lit (I.zero),.num (one64),.lit (I.zero),.lit (I.zero),.lit (I.zero),.mul 11 0,.mul 11 2,.sub 1 0,.mul 13 6,.mul 16 4,.sub 1 0,.mul 18 7,.mul 18 10,.sub 1 0,.sqrt 37,.mul 0 39,.num (q2),.add 39 22,.mul 1 0,.sqr 3,.sub 42 0,.sub 43 2,.max 1 43,.sqrt 0,.mul 2 0,.mul 10 50,.mul 7 0,.add 2 0,.sqr 0,.sub 8 0,.max 0 51,.sqrt 0,.mul 16 30,.mul 17 29,.mul 18 29,.mul 7 27,.mul 8 25,.mul 9 23,.add 5 2,.add 5 2,.add 5 2,.mul 9 48,.mul 10 48,.mul 11 48,.add 5 2,.add 5 2,.add 5 2,.mul 73 2,.mul 74 2,.max 2 70,.num (one64),.sqr 3,.sqr 3,.add 1 0,.sqr 4,.add 1 0,.sqrt 0,.div 6 0,.mul 0 10,.mul 1 10,.mul 2 10,.kept mone64 one64 2,.kept mone64 one64 2,.kept z64 one64 2]
def drB:List Op:=[.num (one64),.num (z64),.mul 5 8,.mul 6 8,.num (one64),.sqr 2,.sqr 2,.add 1 0,.sqr 12,.add 1 0,.sqrt 0,.div 6 0,.mul 0 9,.mul 1 9,.mul 2 18,.kept mone64 one64 2,.kept mone64 one64 2,.kept z64 one64 2,.sqr 2,.sqr 2,.add 1 0,.sqrt 0,.neg 5,.div 0 1,.kept mone64 one64 0,.div 9 3,.kept mone64 one64 0,.lit (I.zero),.mul 11 0,.mul 11 2,.sub 1 0,.mul 13 6,.mul 16 4,.sub 1 0,.mul 18 7,.mul 18 10,.sub 1 0,.sqrt 37,.mul 0 39,.num (q2),.add 39 22,.mul 1 0,.sqr 3,.sub 42 0,.sub 43 2,.max 1 43,.sqrt 0,.mul 2 0,.mul 10 50,.mul 7 0,.add 2 0,.sqr 0,.sub 8 0,.max 0 51,.sqrt 0,.mul 16 30,.mul 17 29,.mul 18 29,.mul 7 27,.mul 8 25,.mul 9 23,.add 5 2,.add 5 2,.add 5 2,.mul 9 48,.mul 10 48,.mul 11 48,.add 5 2,.add 5 2,.add 5 2,.mul 73 2,.mul 74 2,.max 2 70,.num (one64),.sqr 3,.sqr 3,.add 1 0,.sqr 4,.add 1 0,.sqrt 0,.div 6 0,.mul 0 10,.mul 1 10,.mul 2 10,.kept mone64 one64 2,.kept mone64 one64 2,.kept z64 one64 2]
end Bu
namespace Go.Proofs.YtejcekikbnlllaaGreat
open Go.RowKit Bu Rx
def OCL(K:Kk):List (Nat×OF):=[(42,kC (aII K.add)),(39,kC (aII K.sub)),(28,kC (aII K.mul)),(65,kC (aII K.div)),(38,kC (aII K.max)),(40,kC (aI K.sqr)),(37,kC (aI K.sqrt))]++
 [(109,kC (aI K.neg))]++
 [(35,kC (aF K.num)),(67,plainO (kBI rt)),(60,plainO oRight),(59,plainO kAbs),(64,plainO (oI1 withI)),(29,plainO (oConst (.agg [.fl PIc.lo,.fl PIc.hi])))]
theorem absG:PlainOk prog 59 kAbs:=by
 intro args ds x ds' ob h ho;unfold kAbs at h;split at h
 ·rename_i x;simp only[sIz,pIz]at h;obtain⟨rfl,_,_⟩:=h;exact⟨[.float .f64 x.b],_,rfl,rfl,fun w=>(abs_F x w).mono fun e w' ⟨h1,h2⟩=>⟨h1,h2▸Below.refl _ _⟩⟩
 ·cases h
theorem vwRun0(a b:F):valR ((run prog EG OIM 60).1 64 [.agg [.fl a,.fl b]] [] (some [true]))=some (.agg [.fl F.zero,.fl F.zero],some [],[(decide ((mnF b one64).k<(mxF a mone64).k),true)]):=by kernel_rfl
theorem vwRun1(a b:F):valR ((run prog EG OIM 60).1 64 [.agg [.fl a,.fl b]] [] (some [false]))=some (.agg [.fl (mxF a mone64),.fl (mnF b one64)],some [],[(decide ((mnF b one64).k<(mxF a mone64).k),false)]):=by kernel_rfl
theorem vwG:PlainOk prog 64 (oI1 withI):=by
 intro args ds x ds' ob h ho;unfold oI1 at h;split at h
 ·rename_i a b;simp only[sIz,pIz]at h;obtain⟨rfl,_,_⟩:=h;refine⟨[.agg #[.float .f64 a.b,.float .f64 b.b]],_,rfl,rfl,fun w=> ?_⟩;cases h1:decide ((mnF b one64).k<(mxF a mone64).k)
  ·rw[show withI ⟨a,b⟩=⟨mxF a mone64,mnF b one64⟩from by simp only[withI,h1,cF]];exact calls_of_val goodG oracleIM 60 (vwRun1 a b) (ObsOk.of_B (obsB_yes h1 obsB_nil)) rfl rfl w
  ·rw[show withI ⟨a,b⟩=⟨F.zero,F.zero⟩from by simp only[withI,I.zero,h1,cT]];exact calls_of_val goodG oracleIM 60 (vwRun0 a b) (ObsOk.of_B (obsB_yes h1 obsB_nil)) rfl rfl w
 ·cases h
def OPi:OracleF:=lookO [(83,plainO (kNx nextF))]
theorem oraclePi:OracleOk prog OPi:= .cons nextG.of (.nil _)
def OPiK(f:F->Bool->F×Int):OracleF:=lookO [(83,plainO (kNx f))]
theorem piRun(f:F->Bool->F×Int):valR ((run prog EG (OPiK f) 60).1 29 [] [] (some []))=some (.agg [.fl pi64,.fl (f pi64 true).1],some [],[]):=by kernel_rfl
theorem piG:PlainOk prog 29 (oConst (.agg [.fl PIc.lo,.fl PIc.hi])):=constG rfl fun w=>calls_of_val goodG oraclePi 60 (piRun nextF) (ObsOk.of_B obsB_nil) rfl rfl w
theorem oracleCL:OracleOk prog (lookO (OCL KkR)):=
 .cons addC <| .cons subC <| .cons mulC <| .cons divC <| .cons cmax_I <| .cons sqrC <| .cons csqrt_I <|
 .cons negC <|
 .cons numC <| .cons irtK.of <| .cons rightG.of <| .cons absG.of <| .cons vwG.of <| .cons piG.of <| .nil _
end Go.Proofs.YtejcekikbnlllaaGreat
namespace Bu
open Rx Go
def minA:F:=toF 4584664420663164928
def tiny64:F:=toF 4318952042648305664
def huge64:F:=toF 4895412794951729152
def neB(e:Int):Bool:= !(e==0)
def unE(K:Kk)(x y z:F):List I×Int:=evalK K (unP x y z) [] 0
def unV(K:Kk)(x y z:F):V3:=⟨gt (unE K x y z).1 4,gt (unE K x y z).1 2,gt (unE K x y z).1 0⟩
def mostF(x y z:F):F:=mxF (mxF x.abs y.abs) z.abs
def unB(x y z:F):Bool:= !decide ((mostF x y z).k<tiny64.k)&& !decide (huge64.k<(mostF x y z).k)
def kUn(f:F->F->F->V3)(p:F->F->F->Bool):List SV->Dec->Option (SV×Dec×Obs)
 | [.agg [.fl x,.fl y,.fl z]],ds=>(takeB ds (p x y z)).map fun r=>(bif r.1 then .tup [(f x y z).sv,.i .i64 0]else .tup [V3.zero.sv,.i .i64 50],r.2.1,r.2.2)
 |_,_=>none
def ggE(K:Kk)(p:List Op)(c al:I):List I×Int:=evalK K p [c,al] 0
def ggR(K:Kk)(p:List Op)(c al:I):I×Int:=bif neB (ggE K p c al).2 then(I.zero,(ggE K p c al).2)else(gt (ggE K p c al).1 0,0)
def alO(al:I):Obs:=[(decide (al.hi.k<=one64.k),true),(decide (minA.k<=al.lo.k),true),(rt al,true)]
def ggO(c al:I):Obs:=[(decide (c.hi.k<=one64.k),true),(decide (z64.k<=c.lo.k),true),(rt c,true)]++alO al
def kGg(f:I->I->I×Int):List SV->Dec->Option (SV×Dec×Obs)
 | [.agg [.fl a,.fl b],.agg [.fl c,.fl d]],ds=>some (.tup [.agg [.fl (f ⟨a,b⟩ ⟨c,d⟩).1.lo,.fl (f ⟨a,b⟩ ⟨c,d⟩).1.hi],.si .i64 (f ⟨a,b⟩ ⟨c,d⟩).2],ds,ggO ⟨a,b⟩ ⟨c,d⟩)
 |_,_=>none
def drEnv(N:Kq)(v:V3)(al:I)(a b:Int):List I:=[N.uo a,N.co (N.uo b),N.si (N.uo b),al,v.z,v.y,v.x]
def dirO(v:V3):Obs:=[(decide (v.z.hi.k<=one64.k),true),(decide (z64.k<=v.z.lo.k),true),(decide (v.y.hi.k<=one64.k),true),(decide (mone64.k<=v.y.lo.k),true),(decide (v.x.hi.k<=one64.k),true),(decide (mone64.k<=v.x.lo.k),true),(rt v.z,true),(rt v.y,true),(rt v.x,true)]
def drQ(K:Kk)(v:List I):I:=gt (evalK K drP1 v 0).1 0
def drV(K:Kk)(p:List Op)(v:List I):V3:=⟨gt (evalK K p v 0).1 2,gt (evalK K p v 0).1 1,gt (evalK K p v 0).1 0⟩
def drX(K:Kk)(t p:List Op)(v:List I):V3×Int:=bif neB (evalK K t v 0).2 then(V3.zero,(evalK K t v 0).2)else bif neB (evalK K p v 0).2 then(V3.zero,(evalK K p v 0).2)else(drV K p v,0)
def drN(K:Kk)(v:List I):V3×Int:=(V3.zero,bif neB (evalK K drP1 v 0).2 then(evalK K drP1 v 0).2 else 11)
def drR(K:Kk)(v:List I):V3×Int:=bif decide ((drQ K v).hi.k=z64.k)then drX K drTa drA v else bif decide (z64.k<(drQ K v).lo.k)then drX K drTb drB v else drN K v
def drO(N:Kq)(v:V3)(al:I)(a b:Int):Obs:=[(N.u a,true),(N.ib (N.uo b),true),(N.u b,true)]++dirO v++alO al
def drOw(v:V3)(al:I):Obs:=[(rt v.z,true),(rt v.y,true),(rt v.x,true),(decide (minA.k<=al.lo.k),true),(rt al,true)]
def kVd(f:V3->I->Int->Int->V3×Int)(o:V3->I->Int->Int->Obs):List SV->Dec->Option (SV×Dec×Obs)
 | [.agg [.fl a, .fl b, .fl c, .fl d, .fl e, .fl f'], .agg [.fl g, .fl h], x, y], ds => match intS x, intS y with
   | some (.u64, n), some (.u64, m) => (takeB ds (decide (h.k ≤ one64.k))).map fun r => (bif r.1 then .tup [(f ⟨⟨a, b⟩, ⟨c, d⟩, ⟨e, f'⟩⟩ ⟨g, h⟩ n m).1.sv, .si .i64 (f ⟨⟨a, b⟩, ⟨c, d⟩, ⟨e, f'⟩⟩ ⟨g, h⟩ n m).2] else .tup [V3.zero.sv, .i .i64 2], r.2.1,
     (bif r.1 then o ⟨⟨a,b⟩,⟨c,d⟩,⟨e,f'⟩⟩ ⟨g,h⟩ n m else drOw ⟨⟨a,b⟩,⟨c,d⟩,⟨e,f'⟩⟩ ⟨g,h⟩)++r.2.2)
   |_,_=>none
 |_,_=>none
end Bu
namespace Go.Proofs.YtejcekikbnlllaaGreat
open Go.RowKit Bu Rx
def ivS(a:I):SV:= .agg [.fl a.lo,.fl a.hi]
theorem unRun(K:Kk)(x y z:F):valR ((run prog EG (lookO (OCL K)) 80).1 17 [.agg [.fl x,.fl y,.fl z]] [] (some [false,false]))=some (.tup [(unV K x y z).sv,.i .i64 0],some [],[(decide (huge64.k<(mostF x y z).k),false),(decide ((mostF x y z).k<tiny64.k),false)]):=by kernel_rfl
theorem unRun1(K:Kk)(x y z:F):valR ((run prog EG (lookO (OCL K)) 80).1 17 [.agg [.fl x,.fl y,.fl z]] [] (some [true]))=some (.tup [V3.zero.sv,.i .i64 50],some [],[(decide ((mostF x y z).k<tiny64.k),true)]):=by kernel_rfl
theorem unRun2(K:Kk)(x y z:F):valR ((run prog EG (lookO (OCL K)) 80).1 17 [.agg [.fl x,.fl y,.fl z]] [] (some [false,true]))=some (.tup [V3.zero.sv,.i .i64 50],some [],[(decide (huge64.k<(mostF x y z).k),true),(decide ((mostF x y z).k<tiny64.k),false)]):=by kernel_rfl
theorem ggDRun(K:Kk)(c al:I):valR ((run prog EG (lookO (OCL K)) 80).1 300 [ivS c,ivS al] [] (some [true,true,true,true,true,true,false]))=some (.tup [ivS (gt (ggE K ggD c al).1 0),.i .i64 0],some [],(neB (ggE K ggD c al).2,false)::ggO c al):=by kernel_rfl
theorem ggDRun1(K:Kk)(c al:I):valR ((run prog EG (lookO (OCL K)) 80).1 300 [ivS c,ivS al] [] (some [true,true,true,true,true,true,true]))=some (.tup [ivS I.zero,.si .i64 (ggE K ggD c al).2],some [],(neB (ggE K ggD c al).2,true)::ggO c al):=by kernel_rfl
theorem gg1Run(K:Kk)(c al:I):valR ((run prog EG (lookO (OCL K)) 80).1 302 [ivS c,ivS al] [] (some [true,true,true,true,true,true,false]))=some (.tup [ivS (gt (ggE K gg1 c al).1 0),.i .i64 0],some [],(neB (ggE K gg1 c al).2,false)::ggO c al):=by kernel_rfl
theorem gg1Run1(K:Kk)(c al:I):valR ((run prog EG (lookO (OCL K)) 80).1 302 [ivS c,ivS al] [] (some [true,true,true,true,true,true,true]))=some (.tup [ivS I.zero,.si .i64 (ggE K gg1 c al).2],some [],(neB (ggE K gg1 c al).2,true)::ggO c al):=by kernel_rfl
theorem neB_0{e:Int}(h:neB e=false):e=0:=by unfold neB at h;simpa using h
theorem gg_known{g:FuncId}{p:List Bu.Op}
  (h0:∀(K:Kk)(c al:I),valR ((run prog EG (lookO (OCL K)) 80).1 g [ivS c,ivS al] [] (some [true,true,true,true,true,true,false]))=some (.tup [ivS (gt (ggE K p c al).1 0),.i .i64 0],some [],(neB (ggE K p c al).2,false)::ggO c al))
  (h1:∀(K:Kk)(c al:I),valR ((run prog EG (lookO (OCL K)) 80).1 g [ivS c,ivS al] [] (some [true,true,true,true,true,true,true]))=some (.tup [ivS I.zero,.si .i64 (ggE K p c al).2],some [],(neB (ggE K p c al).2,true)::ggO c al)):PlainOk prog g (kGg (ggR KkR p)):=by
 intro args ds x ds' ob h ho;unfold kGg at h;split at h
 ·rename_i a b c d;simp only[sIz,pIz]at h;obtain⟨rfl,_,rfl⟩:=h;refine⟨[.agg #[.float .f64 a.b,.float .f64 b.b],.agg #[.float .f64 c.b,.float .f64 d.b]],_,rfl,rfl,fun w=> ?_⟩;unfold ggR;cases k:neB (ggE KkR p ⟨a,b⟩ ⟨c,d⟩).2
  ·have r:=h0 KkR ⟨a,b⟩ ⟨c,d⟩;exact calls_of_val goodG oracleCL 80 r (fun q hq=>by
    rcases List.mem_cons.1 hq with rfl|hq
    ·exact k
    ·exact ho q hq) rfl rfl w
  ·have r:=h1 KkR ⟨a,b⟩ ⟨c,d⟩;exact calls_of_val goodG oracleCL 80 r (fun q hq=>by
    rcases List.mem_cons.1 hq with rfl|hq
    ·exact k
    ·exact ho q hq) rfl rfl w
 ·cases h
theorem ggDG:PlainOk prog 300 (kGg (ggR KkR ggD)):=gg_known ggDRun ggDRun1
theorem gg1G:PlainOk prog 302 (kGg (ggR KkR gg1)):=gg_known gg1Run gg1Run1
theorem unG:PlainOk prog 17 (kUn (unV KkR) unB):=by
 intro args ds x ds' ob h ho;unfold kUn at h;split at h
 ·rename_i x y z;simp only[mIz,pIz]at h;obtain⟨⟨r,e,o⟩,h1,rfl,rfl,rfl⟩:=h;have hd:r=unB x y z:=takeB_ok h1 ho;subst hd;unfold unB;cases k1:decide ((mostF x y z).k<tiny64.k)
  ·cases k2:decide (huge64.k<(mostF x y z).k)
   ·exact⟨[.agg #[.float .f64 x.b,.float .f64 y.b,.float .f64 z.b]],_,rfl,rfl,fun w=>calls_of_val goodG oracleCL 80 (unRun KkR x y z) (ObsOk.of_B (obsB_yes k2 (obsB_yes k1 obsB_nil))) rfl rfl w⟩
   ·exact⟨[.agg #[.float .f64 x.b,.float .f64 y.b,.float .f64 z.b]],_,rfl,rfl,fun w=>calls_of_val goodG oracleCL 80 (unRun2 KkR x y z) (ObsOk.of_B (obsB_yes k2 (obsB_yes k1 obsB_nil))) rfl rfl w⟩
  ·exact⟨[.agg #[.float .f64 x.b,.float .f64 y.b,.float .f64 z.b]],_,rfl,rfl,fun w=>calls_of_val goodG oracleCL 80 (unRun1 KkR x y z) (ObsOk.of_B (obsB_yes k1 obsB_nil)) rfl rfl w⟩
 ·cases h
end Go.Proofs.YtejcekikbnlllaaGreat
namespace Go.Proofs.YtejcekikbnlllaaGreat
open Go Go.RowKit Bu Rx
theorem mk_okP{a b c:F}(h:rt ⟨a,b⟩=true)(h1:c.k<=a.k)(h2:b.k<=one64.k):okP (a.b,b.b,c.b):=⟨a,b,c,rfl,rfl,rfl,h,h1,h2⟩
theorem lit_b:mone64.b=13830554455654793216/\z64.b=0:=by decide+kernel
theorem dir_ok{v:V3}(h:ObsOk (dirO v)):okP (v.x.lo.b,v.x.hi.b,mone64.b)/\okP (v.y.lo.b,v.y.hi.b,mone64.b)/\okP (v.z.lo.b,v.z.hi.b,z64.b):=by
 have m:∀q∈dirO v,q.1=q.2:=h;have g:∀{c:Bool},(c,true)∈dirO v->c=true:=fun hq=>m _ hq;refine⟨mk_okP (g (.tail _ (.tail _ (.tail _ (.tail _ (.tail _ (.tail _ (.tail _ (.tail _ (.head _)))))))))) (oTz (g (.tail _ (.tail _ (.tail _ (.tail _ (.tail _ (.head _)))))))) (oTz (g (.tail _ (.tail _ (.tail _ (.tail _ (.head _))))))),
  mk_okP (g (.tail _ (.tail _ (.tail _ (.tail _ (.tail _ (.tail _ (.tail _ (.head _))))))))) (oTz (g (.tail _ (.tail _ (.tail _ (.head _)))))) (oTz (g (.tail _ (.tail _ (.head _))))),
  mk_okP (g (.tail _ (.tail _ (.tail _ (.tail _ (.tail _ (.tail _ (.head _)))))))) (oTz (g (.tail _ (.head _)))) (oTz (g (.head _)))⟩
def kMlook:OF:=fun args M ds=>match args with
 | [.sl n 0 2 _] => match M[n]? with
   |some ⟨_,[.fl a,.fl b,.fl c,.fl d,.fl e,.fl f,.fl g,.fl h,.fl i,.fl j,.fl k,.fl l],.ex⟩=>some (.i .i64 0,M,ds,dirO ⟨⟨a,b⟩,⟨c,d⟩,⟨e,f⟩⟩++dirO ⟨⟨g,h⟩,⟨i,j⟩,⟨k,l⟩⟩)
   |_=>none
 |_=>none
theorem look_w(v u:V3)(hv:ObsOk (dirO v))(hu:ObsOk (dirO u))(r cap:Nat)(t:TypeId)(w:World)
  (hr:w.heap[r]? =some (.cells #[.float .f64 v.x.lo.b,.float .f64 v.x.hi.b,.float .f64 v.y.lo.b,.float .f64 v.y.hi.b,.float .f64 v.z.lo.b,.float .f64 v.z.hi.b,.float .f64 u.x.lo.b,.float .f64 u.x.hi.b,.float .f64 u.y.lo.b,.float .f64 u.y.hi.b,.float .f64 u.z.lo.b,.float .f64 u.z.hi.b] t (0,0))) :
  Calls prog 298 #[.slice (some ⟨r,0,none⟩) 2 cap] w fun e w'=>e= .returned (.int .i64 0)/\Below w.heap.size w w':=by
 obtain⟨v1,v2,v3⟩:=dir_ok hv;obtain⟨u1,u2,u3⟩:=dir_ok hu;refine(callsIn_wide (n:=8)).1 (look_in _ 8 trivial trivial trivial trivial rfl (by omega) (fun m q w hq=>callsIn_wide.2 (right_pt hq w)) r cap
  (fun j=>match j with
   |0=>⟨_,v1⟩
   |1=>⟨_,v2⟩
   |2=>⟨_,v3⟩
   |3=>⟨_,u1⟩
   |4=>⟨_,u2⟩
   |_=>⟨_,u3⟩) w (Array.getElem?_eq_some_iff.1 hr).1 ⟨fun j hj=> ?_,lit_b.1,lit_b.1,lit_b.2,lit_b.1,lit_b.1,lit_b.2⟩)
 match j,hj with
 |0,_=>simp[World.cell?,hr]
 |1,_=>simp[World.cell?,hr]
 |2,_=>simp[World.cell?,hr]
 |3,_=>simp[World.cell?,hr]
 |4,_=>simp[World.cell?,hr]
 |5,_=>simp[World.cell?,hr]
theorem mlook_ok:OfOk prog 298 kMlook:=by
 intro args M ds x M' ds' ob h ho m w vs hvs hM;unfold kMlook at h;split at h
 ·rename_i n cap;split at h
  ·rename_i t a b c d e f g h' i j k l hb;simp only[sIz,pIz]at h;obtain⟨rfl,rfl,_,rfl⟩:=h;obtain⟨r,hr,hat⟩:=hM.blk n _ hb;obtain⟨cv,hcv,hh⟩:=hat.ex;have e1:vs=[.slice (some ⟨r,0,none⟩) 2 cap]:=by simp[dens,den,hr]at hvs;exact hvs.symm
   have e2:cv=[.float .f64 a.b,.float .f64 b.b,.float .f64 c.b,.float .f64 d.b,.float .f64 e.b,.float .f64 f.b,.float .f64 g.b,.float .f64 h'.b,.float .f64 i.b,.float .f64 j.b,.float .f64 k.b,.float .f64 l.b]:=by simp[dens,den]at hcv;exact hcv.symm
   subst e1;subst e2;exact(look_w ⟨⟨a,b⟩,⟨c,d⟩,⟨e,f⟩⟩ ⟨⟨g,h'⟩,⟨i,j⟩,⟨k,l⟩⟩ (fun q hq=>ho q (List.mem_append_left _ hq)) (fun q hq=>ho q (List.mem_append_right _ hq)) r cap t w hh).mono fun e w' ⟨he,hb⟩=>⟨m,_,he,CallPost.same hM rfl hb⟩
  ·cases h
 ·cases h
end Go.Proofs.YtejcekikbnlllaaGreat
namespace Bu
open Rx Go
def InB(a b:I):Prop:=b.lo.k<=a.lo.k/\a.hi.k<=b.hi.k/\a.lo.k<=a.hi.k
theorem InB.inn{a b:I}(h:InB a b):Inn a b:=⟨q_le.2 h.1,q_le.2 h.2.1,dT h.2.2⟩
theorem Inn.inB{a b:I}(h:Inn a b):InB a b:=⟨q_le.1 h.lo,q_le.1 h.hi,oTz h.rt⟩
def monoB:Bu.Op->Bool
 | .lit a=>rt a
 | .fn _ _| .fn2 _ _ _| .wi _=>false
 |_=>true
theorem mono_all{l:List Bu.Op}(h:l.all monoB=true):∀o∈l,MonoO o:=by intro o ho;have:=List.all_eq_true.1 h o ho;cases o<;>first|trivial|exact this|cases this
def AllIn:List I->List I->Prop
 | [],[]=>True
 |a::v,b::w=>InB a b/\AllIn v w
 |_,_=>False
theorem AllIn.inn:∀{v w:List I},AllIn v w->∀i,Inn (gt v i) (gt w i)
 | [],[],_,i=>Inn.refl (gt_rt (v:=[]) (fun _ h=>by cases h) i)
 |a::v,b::w,h,0=>h.1.inn
 |a::v,b::w,h,i+1=>AllIn.inn (v:=v) (w:=w) h.2 i
 | [],_::_,h,_=>h.elim
 |_::_,[],h,_=>h.elim
theorem box{l:List Bu.Op}{v w:List I}(hm:l.all monoB=true)(hv:AllIn v w)(h:(evalK KkR l w 0).2=0):(evalK KkR l v 0).2=0/\∀i,Inn (gt (evalK KkR l v 0).1 i) (gt (evalK KkR l w 0).1 i):=eval_inn (mono_all hm) hv.inn h
def four64:F:=toF 4616189618054758400
def three64:F:=toF 4613937818241073152
def minIo:F:=toF 4607463893776728064
def minMt:F:=toF 4589168020290535424
def maxMt:F:=toF 4625196817309499392
def frD:List Op:=[.num (one64),.sqr 2,.sub 0 1,.sqr 3,.add 1 0,.sqrt 0,.sub 0 6,.add 1 7,.div 1 0,.sqr 0,.add 4 10,.mul 11 0,.sub 0 11,.sub 7 13,.mul 14 0,.add 0 14,.div 3 0,.sqr 0,.num (q2),.mul 0 9,.add 19 2,.mul 1 0,.kept z64 one64 0]
def frC:List Op:=[.num (q2),.sqr 1,.num (one64),.sub 0 1,.kept z64 one64 0,.sqr 6,.sqr 8,.sub 1 0,.sub 0 3,.sqr 0,.num (four64),.mul 5 4,.mul 1 0,.add 3 0,.sqrt 0,.add 0 6,.num (z64),.max 1 0,.mul 17 0,.sqrt 0,.add 5 18,.num (two64),.mul 0 2,.mul 0 23,.sub 3 0,.add 4 1,.div 1 0,.kept z64 one64 0,.mul 26 13,.sqr 24,.add 1 0,.mul 7 26,.sub 1 0,.add 2 1,.div 1 0,.mul 7 0,.kept z64 one64 0,.add 9 0,.mul 37 0]
def miH:List Op:=[.add 5 2,.add 5 2,.add 5 2,.sqr 2,.sqr 2,.add 1 0,.sqr 3,.add 1 0,.sqrt 0,.num (q2),.mul 0 1,.kept z64 one64 0,.add 15 12,.div 0 4,.kept z64 one64 0]
def miV:List Op:=[.num (four64),.mul 3 2,.mul 1 6,.mul 0 6,.div 2 0,.mul 5 7,.mul 5 9,.div 1 0]
def gg2:List Op:=[.sqr 2,.num (one64),.sqr 3,.num (one64),.sub 0 1,.div 0 2,.num (q2),.num (one64),.mul 7 2,.add 1 0,.sqrt 0,.num (one64),.sub 1 0,.mul 6 0,.hid 0,.add 13 0,.sqr 16,.num (one64),.sub 0 1,.div 0 2,.num (q2),.num (one64),.mul 21 2,.add 1 0,.sqrt 0,.num (one64),.sub 1 0,.mul 6 0,.hid 0,.add 13 0,.num (one64),.div 0 1]
def lbV:List Op:=[.lit (PIc),.div 1 0]
def bz1:I:=⟨z64,one64⟩
def bn:I:=⟨minIo,four64⟩
def bm:I:=⟨minMt,maxMt⟩
def bal:I:=⟨toF 4584664420663164928,one64⟩
def b11:I:=⟨mone64,one64⟩
def bzz:I:=⟨toF 4575657221408423936,one64⟩
def d64:F:=toF 4580160821035794432
theorem p_add{i j:Nat}{v:List I}{r:I}{x y:Rat}(h:Fact (.add i j) v r)(hx:Mem (gt v i) x)(hy:Mem (gt v j) y):Mem r (x+y):=add_mem h.1 h.2 hx hy
theorem p_sub{i j:Nat}{v:List I}{r:I}{x y:Rat}(h:Fact (.sub i j) v r)(hx:Mem (gt v i) x)(hy:Mem (gt v j) y):Mem r (x-y):=sub_mem h.1 h.2 hx hy
theorem p_mul{i j:Nat}{v:List I}{r:I}{x y:Rat}(h:Fact (.mul i j) v r)(hx:Mem (gt v i) x)(hy:Mem (gt v j) y):Mem r (x*y):=mul_mem h hx hy
theorem p_div{i j:Nat}{v:List I}{r:I}{x y:Rat}(h:Fact (.div i j) v r)(hx:Mem (gt v i) x)(hy:Mem (gt v j) y):Mem r (x/y):=div_in hy.rt h.1 h.2 hx hy
theorem p_sqr{i:Nat}{v:List I}{r:I}{x:Rat}(h:Fact (.sqr i) v r)(hx:Mem (gt v i) x):Mem r (x*x):=sqr_in' hx.rt h.1 h.2 hx
theorem p_num{x:F}{v:List I}{r:I}{q:Rat}(h:Fact (.num x) v r)(e:x.q=q):Mem r q:=by rw[show r=_ from h,<-e];exact⟨Rat.le_refl,Rat.le_refl⟩
theorem p_lit{a:I}{v:List I}{r:I}{q:Rat}(h:Fact (.lit a) v r)(e:Mem a q):Mem r q:=by rw[show r=_ from h];exact e
theorem p_kept{i:Nat}{l u:F}{v:List I}{r:I}{x:Rat}(h:Fact (.kept l u i) v r)(hx:Mem (gt v i) x)(h0:l.q<=x)(h1:x<=u.q):Mem r x:=by
 rw[show r=_ from h];have a:=hx.lo;have b:=hx.hi;constructor
 ·show(mnF (mxF _ _) _).q<=_;rcases mnF_or (mxF (gt v i).lo l) u with e|e
  ·rw[e];rcases mxF_or (gt v i).lo l with e|e<;>rw[e]<;>grind
  ·have:=(mnF_q (mxF (gt v i).lo l) u).1;rcases mxF_or (gt v i).lo l with e2|e2<;>rw[e2]at this e ⊢ <;>(have:=(mnF_q (mxF (gt v i).lo l) u).1;grind)
 ·show _<=(mnF (mxF _ _) _).q;rcases mnF_or (mxF (gt v i).hi l) u with e|e
  ·rw[e];have:=(mxF_q (gt v i).hi l).1;grind
  ·rw[e];exact h1
end Bu
