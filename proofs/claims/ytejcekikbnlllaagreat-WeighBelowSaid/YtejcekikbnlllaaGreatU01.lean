/- What the rows of these laws ask behind a call whose arguments are plain words and whose .. -/
import Derived.Test.YtejcekikbnlllaaGreatRows
import Derived.WalkKit
import Derived.ProofKit
import Derived.OpenShut
import Derived.Laws.Cover2
import Derived.ChangeSame
import Derived.Deep.Strs
import Ieee.Arith
import Derived.RowKit
import Derived.Orders
import Derived.LoopN
import Derived.Laws.Sem
import Derived.Laws.World
import Derived.Laws.Cells
import Derived.Laws.BitsAll
import Derived.Lib.ItoaNum
import Derived.Laws.BitsLemmas
set_option linter.all false
universe u v
theorem sIz{α:Type u}(a b:α):(some a=some b)=(a=b):=Option.some.injEq a b
theorem dT{p:Prop}[Decidable p]:p->decide p=true:=decide_eq_true
theorem dF{p:Prop}[Decidable p]:¬p->decide p=false:=decide_eq_false
theorem mIz{α:Type u}{β:Type v}{b:α}{x:Option β}{f:β->α}:Option.map f x=some b↔∃a,x=some a/\f a=b:=Option.map_eq_some_iff
theorem cF{α:Sort u}(a b:α):cond false a b=b:=rfl
theorem cT{α:Sort u}(a b:α):cond true a b=a:=rfl
theorem pIz{α:Type u}{β:Type v}(a:α)(b:β)(c:α)(d:β):((a,b)=(c,d))=(a=c/\b=d):=Prod.mk.injEq a b c d
theorem mN{a b:Rat}:0<=a->0<=b->0<=a*b:=Rat.mul_nonneg
theorem aTz(a b:Bool):((a&&b)=true)=(a=true/\b=true):=Bool.and_eq_true a b
theorem oTz{p:Prop}[Decidable p]:decide p=true->p:=of_decide_eq_true
theorem tN(n:Nat):(n:Int).toNat=n:=Int.toNat_natCast n
namespace Go.Proofs.YtejcekikbnlllaaGreat
open Go.ChangeShapes Go.WideShapes Go.ChangeAt Go.RowKit
theorem Tryz.own:ownKnob Tryz.prog.godebug=none:=by kernel_rfl
section
variable {H:Type} {enc:TypeId×Value->H} {P:Program}
end
end Go.Proofs.YtejcekikbnlllaaGreat
namespace Go.Proofs.YtejcekikbnlllaaGreat
open Go.ChangeShapes Go.WideShapes Go.ChangeAt Go.RowKit Go.Deep
section
variable {H:Type} {enc:TypeId×Value->H} {P:Program} {w:World} {base:Nat} {spare:Nat->Bool} {held:Bool}
end
section
variable {H:Type} {enc:TypeId×Value->H} {P:Program} {w:World} {base:Nat} {spare:Nat->Bool} {held:Bool}
structure ArrT (P:Program) (t e:TypeId) (n:Nat) (k:IntKind):Prop where
 ar:P.underlying t=some (.array n e)
 el:P.underlying e=some (.int k)
 ct:P.cellsOf t=n
 ce:P.cellsOf e=1
theorem okWide_array{t e:TypeId}{n:Nat}{r:Reach}{b0:Nat}{v:Value}(ht:P.underlying t=some (.array n e))(h:Value.okWide P w r b0 t v):∃cs,v= .agg cs:=by simp only[Value.okWide,ht]at h;obtain⟨cs,h1,_⟩:=h;exact⟨cs,h1⟩
theorem ints_of{k:IntKind}{f:DataW H->DataW H}:∀{cs:List Value}{xs:List (DataW H×List MemPlace)},cs.length=xs.length->
  (∀i:Nat,i<xs.length->∃n,(cs.drop i).take 1=[.int k n]/\xs[i]? =some (.lit (.int k n),[])/\(Lit.int k n).wf=true)->
  ∃ns:List Int,ns.length=xs.length/\cs=ns.map (.int k)/\xs=ns.map (fun a=>(DataW.lit (.int k a),[]))/\∀a∈ns,(Lit.int k a).wf=true
 | [],[],_,_=>⟨[],rfl,rfl,rfl,by simp⟩
 | c :: cs, x :: xs, hl, h => by
   obtain⟨n,h1,h2,h3⟩:=h 0 (by simp);simp at h1 h2;obtain⟨ns,g1,g2,g3,g4⟩:=ints_of (f:=f) (cs:=cs) (xs:=xs) (by simpa using hl) fun i hi=>by obtain⟨m,k1,k2,k3⟩:=h (i+1) (by simpa using hi);exact⟨m,by simpa using k1,by simpa using k2,k3⟩
   refine⟨n::ns,by simp[g1],by simp[h1,g2],by simp[h2,g3],?_⟩;intro a ha;rcases List.mem_cons.1 ha with rfl|ha
   ·exact h3
   ·exact g4 a ha
theorem open_arr{t e:TypeId}{n:Nat}{k:IntKind}(hT:ArrT P t e n k){r:Reach}{b0:Nat}{v:Value}{d:DataW H}{ps:List MemPlace}(hval:Value.okWide P w r b0 t v)(hd:DataW.Trod enc P w base spare held t v d ps) :
  ∃ns:List Int,ns.length=n/\v= .agg (ns.map (.int k)).toArray/\d= .agg (ns.map fun a=> .lit (.int k a))/\ps=[]/\∀a∈ns,(Lit.int k a).wf=true:=by
 obtain⟨cs,rfl⟩:=okWide_array hT.ar hval;obtain⟨fuel,hf⟩:=hd;obtain⟨xs,m,_,hx,hl,hn,he⟩:=DataW.trod_array hT.ar hf;rw[hT.ct]at hl;have hcs:(Value.agg cs).cells.toList=cs.toList:=rfl;obtain⟨ns,g1,g2,g3,g4⟩:=ints_of (k:=k) (f:=id) (cs:=(Value.agg cs).cells.toList) (xs:=xs) (by rw[hl,hn]) fun i hi=>by have h:=he i (by omega);rw[hT.ce,Nat.mul_one]at h;obtain⟨x,hx2⟩:∃x,xs[i]? =some x:=⟨xs[i],List.getElem?_eq_getElem hi⟩;rw[hx2]at h;obtain⟨a,c1,c2,c3⟩:=DataW.trod_int hT.el h;exact⟨a,c1,by rw[hx2,c2],c3⟩
 simp only[pIz]at hx;refine⟨ns,by rw[g1,hn],?_,?_,?_,g4⟩
 ·congr 1;apply Array.ext';rw[<-hcs,g2]
 ·rw[hx.1,g3,List.map_map];rfl
 ·rw[hx.2,g3];clear g2 g3 g4 g1
  induction ns with
  |nil=>rfl
  |cons a l ih=>simpa using ih
end
end Go.Proofs.YtejcekikbnlllaaGreat
namespace Bu
def P:Nat:=4503599627370496
def T:Nat:=9218868437227405312
def S:Nat:=2^1074
def man(r:Nat):Nat:=if r<P then r else P+r%P
def pl(r:Nat):Nat:=r/P-1
def nv(r:Nat):Nat:=man r*2^pl r
theorem P_pos:0<P:=by unfold P;omega
theorem P_eq:P=2^52:=rfl
theorem S_eq:S=2^1074:=by unfold S;rfl
theorem S_pos:0<S:=by rw[S_eq];exact Nat.two_pow_pos 1074
attribute [irreducible] S
theorem nv_mk(s m:Nat)(h:m<=2*P)(h2:s=0\/P<=m):nv (s*P+m)=m*2^s:=by
 have hP:=P_pos;unfold nv man pl;by_cases hm:m=2*P
 ·subst hm;have e1:s*P+2*P=(s+2)*P:=by rw[<-Nat.add_mul]
  have e2:¬((s+2)*P<P):=by have:1*P<=(s+2)*P:=Nat.mul_le_mul_right _ (by omega);omega
  rw[e1,if_neg e2,Nat.mul_mod_left,Nat.mul_div_cancel _ hP,show s+2-1=s+1 from by omega,Nat.pow_succ];simp only[Nat.add_zero];rw[Nat.mul_comm 2 P,Nat.mul_assoc,Nat.mul_comm 2]
 ·by_cases h3:m<P
  ·have hs:s=0:=by omega
   subst hs;simp[h3,Nat.div_eq_of_lt h3]
  ·have e0:s*P+m=(s+1)*P+(m-P):=by rw[Nat.add_mul];omega
   have hlt:m-P<P:=by omega
   have e2:¬((s+1)*P+(m-P)<P):=by have:1*P<=(s+1)*P:=Nat.mul_le_mul_right _ (by omega);omega
   rw[e0,if_neg e2,Nat.mul_comm (s+1) P,Nat.mul_add_mod,Nat.mod_eq_of_lt hlt,Nat.mul_add_div hP,Nat.div_eq_of_lt hlt];rw[show P+(m-P)=m from by omega,show s+1+0-1=s from by omega]
theorem rung_mk(r:Nat):∃s m,r=s*P+m/\m<2*P/\(s=0\/P<=m):=by
 have hP:=P_pos;by_cases h:r<P
 ·exact⟨0,r,by omega,by omega,Or.inl rfl⟩
 ·refine⟨r/P-1,P+r%P,?_,by have:=Nat.mod_lt r hP;omega,Or.inr (by omega)⟩;have h1:=Nat.div_add_mod r P;have h2:1<=r/P:=(Nat.le_div_iff_mul_le hP).2 (by omega);obtain⟨q,hq⟩:∃q,r/P=q+1:=⟨r/P-1,by omega⟩;rw[hq]at h1 ⊢;rw[show q+1-1=q from by omega];rw[Nat.mul_comm,Nat.add_mul]at h1;omega
theorem nv_succ(r:Nat):nv r<nv (r+1):=by obtain⟨s,m,rfl,h1,h2⟩:=rung_mk r;rw[Nat.add_assoc,nv_mk s m (by omega) h2,nv_mk s (m+1) (by omega) (by omega)];exact Nat.mul_lt_mul_of_pos_right (by omega) (Nat.two_pow_pos _)
theorem nv_lt{a b:Nat}(h:a<b):nv a<nv b:=by
 induction b with
 |zero=>omega
 | succ n ih =>
   by_cases e:a=n
   ·subst e;exact nv_succ _
   ·exact Nat.lt_trans (ih (by omega)) (nv_succ n)
theorem nv_le{a b:Nat}(h:a<=b):nv a<=nv b:=by
 by_cases e:a=b
 ·subst e;exact Nat.le_refl _
 ·exact Nat.le_of_lt (nv_lt (by omega))
theorem nv_lt_iff{a b:Nat}:nv a<nv b↔a<b:=
 ⟨fun h=>by
  by_cases e:a<b
  ·exact e
  ·have:=nv_le (show b<=a by omega);omega,nv_lt⟩
theorem nv_le_iff{a b:Nat}:nv a<=nv b↔a<=b:=by have:= @nv_lt_iff b a;omega
theorem nv_inj{a b:Nat}(h:nv a=nv b):a=b:=by have h1:= @nv_le_iff a b;have h2:= @nv_le_iff b a;omega
theorem nv_zero:nv 0=0:=by decide
def fl(x:Nat):Nat:=(x.log2-52)*P+x>>>(x.log2-52)
theorem fl_parts(x:Nat):x>>>(x.log2-52)<2*P/\(x.log2-52=0\/P<=x>>>(x.log2-52)):=by
 rw[Nat.shiftRight_eq_div_pow];by_cases h0:x=0
 ·subst h0;simp[P]
 have h1:=Nat.lt_log2_self (n:=x);have h2:=Nat.log2_self_le h0;constructor
 ·rw[Nat.div_lt_iff_lt_mul (Nat.two_pow_pos _)];refine Nat.lt_of_lt_of_le h1 ?_;rw[show 2*P=2^53 from rfl,<-Nat.pow_add];exact Nat.pow_le_pow_right (by omega) (by omega)
 ·by_cases h:x.log2-52=0
  ·exact Or.inl h
  ·right;rw[Nat.le_div_iff_mul_le (Nat.two_pow_pos _)];refine Nat.le_trans ?_ h2;rw[P_eq,<-Nat.pow_add];exact Nat.pow_le_pow_right (by omega) (by omega)
theorem nv_fl_le(x:Nat):nv (fl x)<=x:=by obtain⟨h1,h2⟩:=fl_parts x;unfold fl;rw[nv_mk _ _ (by omega) h2,Nat.shiftRight_eq_div_pow];exact Nat.div_mul_le_self _ _
theorem lt_nv_fl(x:Nat):x<nv (fl x+1):=by obtain⟨h1,h2⟩:=fl_parts x;unfold fl;rw[Nat.add_assoc,nv_mk _ _ (by omega) (by omega),Nat.shiftRight_eq_div_pow];have:=Nat.div_add_mod x (2^(x.log2-52));have h3:=Nat.mod_lt x (Nat.two_pow_pos (x.log2-52));rw[Nat.add_mul,Nat.mul_comm];omega
theorem le_fl{r x:Nat}:r<=fl x↔nv r<=x:=by
 constructor
 ·intro h;exact Nat.le_trans (nv_le h) (nv_fl_le x)
 ·intro h;have:=lt_nv_fl x;have h2:nv r<nv (fl x+1):=by omega
  have:=nv_lt_iff.1 h2;omega
theorem fl_nv(r:Nat):fl (nv r)=r:=by have h1:=(le_fl (r:=r) (x:=nv r)).2 (Nat.le_refl _);have h2:=nv_fl_le (nv r);have:=nv_le_iff.1 h2;omega
def ce(x:Nat):Nat:=if nv (fl x)=x then fl x else fl x+1
theorem ce_le{r x:Nat}:ce x<=r↔x<=nv r:=by
 unfold ce;have h0:=nv_fl_le x;have h1:=lt_nv_fl x;have hr:= @le_fl r x;split
 ·rename_i e;have:= @nv_le_iff (fl x) r;omega
 ·have h2:= @nv_le_iff (fl x+1) r;constructor
  ·intro h;have:=h2.2 h;omega
  ·intro h;by_cases e:r<=fl x
   ·have:=hr.1 e;have:=nv_le e;omega
   ·omega
theorem fl_mono{x y:Nat}(h:x<=y):fl x<=fl y:=le_fl.2 (Nat.le_trans (nv_fl_le x) h)
theorem fl_zero:fl 0=0:=by have:=fl_nv 0;rwa [nv_zero]at this
theorem fl_mk{s m x:Nat}(hm:m<2*P)(h2:s=0\/P<=m)(h3:m*2^s<=x)(h4:x<(m+1)*2^s):fl x=s*P+m:=by
 have a:=(le_fl (r:=s*P+m) (x:=x)).2 (by rw[nv_mk _ _ (by omega) h2];exact h3);have b:¬(s*P+(m+1)<=fl x):=by rw[le_fl,nv_mk _ _ (by omega) (by omega)];omega
 omega
def nvZ(k:Int):Int:=if 0<=k then(nv k.toNat:Int)else -(nv (-k).toNat:Int)
def flZ(x:Int):Int:=if 0<=x then(fl x.toNat:Int)else -(ce (-x).toNat:Int)
theorem nvZ_neg(k:Int):nvZ (-k)= -(nvZ k):=by
 unfold nvZ;by_cases h:k=0
 ·subst h;simp[nv_zero]
 ·by_cases h1:0<=k
  ·rw[if_neg (by omega),if_pos h1];simp
  ·rw[if_pos (by omega),if_neg h1];simp
theorem nvZ_nonneg{k:Int}(h:0<=k):0<=nvZ k:=by unfold nvZ;rw[if_pos h];omega
theorem nvZ_natCast(k:Nat):nvZ (k:Int)=nv k:=by unfold nvZ;simp
theorem nvZ_lt{a b:Int}(h:a<b):nvZ a<nvZ b:=by
 unfold nvZ;by_cases h1:0<=a
 ·rw[if_pos h1,if_pos (by omega)];have:= @nv_lt a.toNat b.toNat (by omega);omega
 ·rw[if_neg h1];by_cases h2:0<=b
  ·rw[if_pos h2];have:= @nv_lt 0 (-a).toNat (by omega);rw[nv_zero]at this;omega
  ·rw[if_neg h2];have:= @nv_lt (-b).toNat (-a).toNat (by omega);omega
theorem nvZ_lt_iff{a b:Int}:nvZ a<nvZ b↔a<b:=
 ⟨fun h=>by
  by_cases e:a<b
  ·exact e
  ·by_cases e2:a=b
   ·subst e2;omega
   ·have:= @nvZ_lt b a (by omega);omega,nvZ_lt⟩
theorem nvZ_le_iff{a b:Int}:nvZ a<=nvZ b↔a<=b:=by have:= @nvZ_lt_iff b a;omega
theorem nvZ_inj{a b:Int}(h:nvZ a=nvZ b):a=b:=by have h1:= @nvZ_le_iff a b;have h2:= @nvZ_le_iff b a;omega
theorem nvZ_zero:nvZ 0=0:=by simp[nvZ,nv_zero]
end Bu
namespace Bu
open Ieee
theorem T_eq:T=2047*P:=rfl
theorem P_lt_T:P<T:=by decide
structure F where
 k:Int
 hk:-(T:Int)<k/\k<(T:Int)
theorem F.ext'{a b:F}(h:a.k=b.k):a=b:=by cases a;cases b;simp only at h;subst h;rfl
instance:DecidableEq F:=fun a b=>if h:a.k=b.k then isTrue (F.ext' h)else isFalse (fun e=>h (by rw[e]))
def F.zero:F:=⟨0,by decide⟩
def F.max:F:=⟨(T:Int)-1,by decide⟩
def F.of(k:Int):F:=if h:-(T:Int)<k/\k<(T:Int)then⟨k,h⟩else F.zero
theorem F.of_k{k:Int}(h:-(T:Int)<k/\k<(T:Int)):(F.of k).k=k:=by unfold F.of;rw[dif_pos h]
def F.b(x:F):Nat:=if 0<=x.k then x.k.toNat else 9223372036854775808+(-x.k).toNat
def F.z(x:F):Int:=nvZ x.k
theorem F.z_lt{a b:F}:a.z<b.z↔a.k<b.k:=nvZ_lt_iff
theorem F.z_le{a b:F}:a.z<=b.z↔a.k<=b.k:=nvZ_le_iff
theorem F.z_inj{a b:F}(h:a.z=b.z):a=b:=F.ext' (nvZ_inj h)
def rightB(w:Nat):Bool:=decide (w<T)||(decide (9223372036854775808<w)&&decide (w<9223372036854775808+T))
theorem T_num:T=9218868437227405312:=rfl
theorem right_F(x:F):rightB x.b=true:=by have:=x.hk;have e:=T_num;unfold rightB F.b;split<;>simp<;>omega
theorem F_of_right{w:Nat}(h:rightB w=true):∃x:F,x.b=w:=by
 have e:=T_num;unfold rightB at h;simp only[Bool.or_eq_true,aTz,decide_eq_true_eq]at h;rcases h with h|⟨h,h2⟩
 ·refine⟨⟨(w:Int),by omega⟩,?_⟩;unfold F.b;simp
 ·refine⟨⟨-((w-9223372036854775808:Nat):Int),by omega⟩,?_⟩;unfold F.b;simp only;rw[if_neg (by omega)];omega
theorem F.b_lt(x:F):x.b<18446744073709551616:=by have:=x.hk;have e:=T_num;unfold F.b;split<;>omega
theorem F.b_inj{x y:F}(h:x.b=y.b):x=y:=by have h1:=x.hk;have h2:=y.hk;have e:=T_num;unfold F.b at h;apply F.ext';split at h<;>split at h<;>omega
def F.abs(x:F):F:=⟨(x.k.natAbs:Int),by have:=x.hk;omega⟩
theorem F.abs_b(x:F):x.b%9223372036854775808=x.abs.b:=by have h1:=x.hk;have e:=T_num;have e2:x.abs.k=(x.k.natAbs:Int):=rfl;unfold F.b;rw[e2,if_pos (show(0:Int)<=(x.k.natAbs:Int)from by omega)];split<;>omega
theorem dbl_sign:double.signWeight=9223372036854775808:=by decide
theorem dbl_bin:double.binade=P:=by decide
theorem dbl_inf:double.infRung=T:=by decide
theorem dbl_least:double.leastPlace= -1074:=by decide
theorem read_parts(w:Nat)(neg:Bool)(r:Nat)(hr:r<9223372036854775808)(hw:w=if neg then 9223372036854775808+r else r) :
  double.read w=if r<T then .number neg (man r) (-1074+(pl r:Int))else if r=T then .infinity neg else .nan neg (r-T):=by
 unfold Format.read;rw[dbl_sign,dbl_bin,dbl_inf,dbl_least];have e1:(w/9223372036854775808%2==1)=neg:=by cases neg<;>simp at hw<;>subst hw<;>simp<;>omega
 have e2:w%9223372036854775808=r:=by cases neg<;>simp at hw<;>subst hw<;>omega
 simp only[e1,e2];have hPT:=P_lt_T;by_cases h1:r<P
 ·rw[if_pos h1,if_pos (by omega)];unfold man pl;rw[if_pos h1,Nat.div_eq_of_lt h1];rfl
 ·rw[if_neg h1];by_cases h2:r<T
  ·rw[if_pos h2,if_pos h2];unfold man pl;rw[if_neg h1]
  ·rw[if_neg h2,if_neg h2]
theorem bad_parts{w:Nat}(hw:w<18446744073709551616)(h:rightB w=false) :
  ∃(neg:Bool)(r:Nat),r<9223372036854775808/\(w=if neg then 9223372036854775808+r else r)/\((neg=true/\r=0)\/r=T\/T<r):=by
 have e:=T_num;unfold rightB at h;simp only[Bool.or_eq_false_iff,Bool.and_eq_false_iff,decide_eq_false_iff_not]at h;by_cases h1:w<9223372036854775808
 ·exact⟨false,w,h1,rfl,by omega⟩
 ·exact⟨true,w-9223372036854775808,by omega,by simp;omega,by simp only[true_and];omega⟩
theorem read_F(x:F):double.read x.b= .number (decide (x.k<0)) (man x.k.natAbs) (-1074+(pl x.k.natAbs:Int)):=by
 have h1:=x.hk;have e:=T_num;have:=read_parts x.b (decide (x.k<0)) x.k.natAbs (by omega) (by
  unfold F.b;by_cases h:x.k<0
  ·simp[h,Int.not_le.2 h];omega
  ·simp[h,Int.not_lt.1 h];omega)
 rw[this,if_pos (by omega)]
theorem signed_eq(neg:Bool)(m u:Nat):signed neg m u=(if neg then -1 else 1)*((m*2^u:Nat):Int):=by unfold signed;rw[Nat.shiftLeft_eq];cases neg<;>simp
theorem nvZ_sign(k:Int):nvZ k=(if decide (k<0)then -1 else 1)*((man k.natAbs*2^pl k.natAbs:Nat):Int):=by
 unfold nvZ nv;by_cases h:k<0
 ·rw[if_neg (by omega),show(-k).toNat=k.natAbs from by omega];simp[h]
 ·rw[if_pos (by omega),show k.toNat=k.natAbs from by omega];simp[h]
theorem compare_mul(a b:Int)(c:Int)(hc:0<c):compare a b=compare (a*c) (b*c):=by have h1:a*c<b*c↔a<b:=Int.mul_lt_mul_right hc;have h2:a*c=b*c↔a=b:=Int.mul_eq_mul_right_iff (by omega);show compareOfLessAndEq a b=compareOfLessAndEq (a*c) (b*c);unfold compareOfLessAndEq;simp only[h1,h2]
theorem nvZ_compare(a b:Int):compare (nvZ a) (nvZ b)=compare a b:=by show compareOfLessAndEq (nvZ a) (nvZ b)=compareOfLessAndEq a b;unfold compareOfLessAndEq;have h2:nvZ a=nvZ b↔a=b:=⟨nvZ_inj,fun h=>by rw[h]⟩;simp only[nvZ_lt_iff,h2]
theorem signed_base(k:Int)(base:Nat)(h:base<=pl k.natAbs) :
  signed (decide (k<0)) (man k.natAbs) (pl k.natAbs-base)*((2^base:Nat):Int)=nvZ k:=by
 rw[signed_eq,nvZ_sign,Int.mul_assoc,<-Int.natCast_mul,Nat.mul_assoc,<-Nat.pow_add,Nat.sub_add_cancel h]
theorem order_F(x y:F):double.order x.b y.b=some (compare x.k y.k):=by
 unfold Format.order;rw[read_F,read_F];simp only[Datum.order];have hb:∀p q:Nat,min (-1074+(p:Int)) (-1074+(q:Int))= -1074+((min p q:Nat):Int):=by intro p q;omega
 rw[hb];have hs:∀p q:Nat,(-1074+(p:Int)-(-1074+(q:Int))).toNat=p-q:=by intro p q;omega
 rw[hs,hs,compare_mul _ _ ((2^(min (pl x.k.natAbs) (pl y.k.natAbs)):Nat):Int) (by have:=Nat.two_pow_pos (min (pl x.k.natAbs) (pl y.k.natAbs));omega)];rw[signed_base _ _ (Nat.min_le_left _ _),signed_base _ _ (Nat.min_le_right _ _),nvZ_compare]
theorem order_lt(x y:F):(double.order x.b y.b==some .lt)=decide (x.k<y.k):=by rw[order_F,Bool.eq_iff_iff];simp only[beq_iff_eq,sIz,decide_eq_true_eq];exact Int.compare_eq_lt
theorem order_gt(x y:F):(double.order x.b y.b==some .gt)=decide (y.k<x.k):=by rw[order_F,Bool.eq_iff_iff];simp only[beq_iff_eq,sIz,decide_eq_true_eq];exact Int.compare_eq_gt
theorem order_eq(x y:F):(double.order x.b y.b==some .eq)=decide (x.k=y.k):=by rw[order_F,Bool.eq_iff_iff];simp only[beq_iff_eq,sIz,decide_eq_true_eq];exact Int.compare_eq_eq
attribute [irreducible] F.of
end Bu
namespace Rx
open Go
inductive SV where
 |b (c:Bool)
 |i (k:IntKind) (n:Int)
 |si (k:IntKind) (n:Int)
 |f (x:Nat)
 |fl (x:Bu.F)
 |p (n off:Nat)
 |sp (n off:Nat)
 |np
 |sl (n off len cap:Nat)
 |ssl (n off len cap:Nat)
 |osl (y:Bool) (n len:Nat)
 |fn (f:Fn) (first cap:List SV)
 |o (v:Value)
 |agg (l:List SV)
 |tup (l:List SV)
 deriving Inhabited
structure Nms where
 f:Nat->Option Nat
 c:Nat->Nat
instance:CoeFun Nms (fun _=>Nat->Option Nat):=⟨Nms.f⟩
def oslV(r len cap:Nat):Option Value:=if len<=cap then some (.slice (some ⟨r,0,none⟩) len cap)else none
theorem oslV_some{r len cap:Nat}{v:Value}:oslV r len cap=some v↔len<=cap/\v= .slice (some ⟨r,0,none⟩) len cap:=by
 unfold oslV;by_cases h:len<=cap
 ·rw[if_pos h];simp[h,eq_comm]
 ·rw[if_neg h];simp[h]
def Nms.no:Nms:=⟨fun _=>none,fun _=>0⟩
mutual
def den(m:Nms):SV->Option Value
 | .b c=>some (.bool c)
 | .i k n=>some (.int k n)
 | .si k n=>some (.int k n)
 | .f x=>some (.float .f64 x)
 | .fl x=>some (.float .f64 x.b)
 | .p n off=>(m n).map fun r=> .pointer (some ⟨r,off,none⟩)
 | .sp n off=>(m n).map fun r=> .pointer (some ⟨r,off,none⟩)
 | .np=>some (.pointer none)
 | .sl n off len cap=>(m n).map fun r=> .slice (some ⟨r,off,none⟩) len cap
 | .ssl n off len cap=>(m n).map fun r=> .slice (some ⟨r,off,none⟩) len cap
 | .osl _ n len=>(m n).bind fun r=>oslV r len (m.c r)
 | .fn f first cap=>(dens m first).bind fun x=>(dens m cap).map fun y=> .func f x.toArray y.toArray
 | .o v=>some v
 | .agg l=>(dens m l).map fun x=> .agg x.toArray
 | .tup l=>(dens m l).map fun x=> .tuple x.toArray
def dens(m:Nms):List SV->Option (List Value)
 | []=>some []
 |x::l=>(den m x).bind fun v=>(dens m l).map fun vs=>v::vs
end
variable {m m':Nms}
theorem dens_nil:dens m []=some []:=by simp[dens]
theorem dens_cons_some{x:SV}{l:List SV}{vs:List Value}:dens m (x::l)=some vs↔∃v us,den m x=some v/\dens m l=some us/\vs=v::us:=by
 simp only[dens,Option.bind_eq_some_iff,mIz];constructor
 ·rintro⟨v,h1,us,h2,rfl⟩;exact⟨v,us,h1,h2,rfl⟩
 ·rintro⟨v,us,h1,h2,rfl⟩;exact⟨v,h1,us,h2,rfl⟩
theorem dens_cons{x:SV}{l:List SV}{v:Value}{us:List Value}(h1:den m x=some v)(h2:dens m l=some us):dens m (x::l)=some (v::us):=
 dens_cons_some.2 ⟨v,us,h1,h2,rfl⟩
theorem dens_length:∀{l:List SV}{vs:List Value},dens m l=some vs->vs.length=l.length
 | [],vs,h=>by simp[dens]at h;simp[h]
 | x :: l, vs, h => by obtain⟨v,us,_,h2,rfl⟩:=dens_cons_some.1 h;simp[dens_length h2]
theorem dens_get:∀{l:List SV}{vs:List Value},dens m l=some vs->∀{j:Nat}{x:SV},l[j]? =some x->∃v,vs[j]? =some v/\den m x=some v
 | [],vs,h,j,x,hx=>by simp at hx
 | y :: l, vs, h, j, x, hx => by
   obtain⟨v,us,h1,h2,rfl⟩:=dens_cons_some.1 h;cases j with
   |zero=>simp at hx;subst hx;exact⟨v,by simp,h1⟩
   |succ j=>simp at hx;obtain⟨u,hu,hd⟩:=dens_get h2 hx;exact⟨u,by simpa using hu,hd⟩
theorem dens_of_get:∀{l:List SV}{vs:List Value},vs.length=l.length->(∀(j:Nat)(x:SV),l[j]? =some x->∃v,vs[j]? =some v/\den m x=some v)->dens m l=some vs
 | [],vs,hl,_=>by simp at hl;simp[hl,dens]
 | y :: l, vs, hl, h => by
   cases vs with
   |nil=>simp at hl
   | cons v us =>
     have h0:=h 0 y (by simp);simp at h0;refine dens_cons h0 (dens_of_get (by simpa using hl) fun j x hx=> ?_);have:=h (j+1) x (by simpa using hx)
     simpa using this
theorem dens_append{l r:List SV}{vs us:List Value}(h1:dens m l=some vs)(h2:dens m r=some us):dens m (l++r)=some (vs++us):=by
 induction l generalizing vs with
 |nil=>simp[dens]at h1;subst h1;simpa using h2
 | cons x l ih =>
   obtain⟨v,ws,a,b,rfl⟩:=dens_cons_some.1 h1;exact dens_cons a (ih b)
theorem dens_set{l:List SV}{vs:List Value}(h:dens m l=some vs){x:SV}{v:Value}(hx:den m x=some v)(j:Nat):dens m (l.set j x)=some (vs.set j v):=by
 refine dens_of_get (by simp[dens_length h]) fun i y hy=> ?_;by_cases hij:j=i
 ·subst hij;have hlt:j<l.length:=by
   rcases Nat.lt_or_ge j l.length with h'|h'
   ·exact h'
   ·simp[List.getElem?_eq_none (by simpa using h':(l.set j x).length<=j)]at hy
  rw[List.getElem?_set_self hlt]at hy;cases hy;exact⟨v,by rw[List.getElem?_set_self (by rw[dens_length h];exact hlt)],hx⟩
 ·rw[List.getElem?_set_ne hij]at hy ⊢;exact dens_get h hy
theorem dens_take{l:List SV}{vs:List Value}(h:dens m l=some vs)(j:Nat):dens m (l.take j)=some (vs.take j):=by
 induction l generalizing vs j with
 |nil=>simp[dens]at h;subst h;simp[dens]
 | cons x l ih =>
   obtain⟨v,ws,a,b,rfl⟩:=dens_cons_some.1 h;cases j with
   |zero=>simp[dens]
   |succ j=>exact dens_cons a (ih b j)
theorem dens_drop{l:List SV}{vs:List Value}(h:dens m l=some vs)(j:Nat):dens m (l.drop j)=some (vs.drop j):=by
 induction l generalizing vs j with
 |nil=>simp[dens]at h;subst h;simp[dens]
 | cons x l ih =>
   obtain⟨v,ws,a,b,rfl⟩:=dens_cons_some.1 h;cases j with
   |zero=>exact dens_cons a b
   |succ j=>exact ih b j
theorem dens_replicate{x:SV}{v:Value}(h:den m x=some v)(j:Nat):dens m (List.replicate j x)=some (List.replicate j v):=by
 induction j with
 |zero=>simp[dens]
 |succ j ih=>exact dens_cons h ih
structure Ext (m m':Nms):Prop where
 n:∀n r,m n=some r->m' n=some r
 c:∀n r,m n=some r->m'.c r=m.c r
theorem Ext.refl(m:Nms):Ext m m:=⟨fun _ _ h=>h,fun _ _ _=>rfl⟩
theorem Ext.trans{a b c:Nms}(h:Ext a b)(k:Ext b c):Ext a c:=⟨fun n r x=>k.n n r (h.n n r x),fun n r x=>(k.c n r (h.n n r x)).trans (h.c n r x)⟩
mutual
theorem den_ext(hm:Ext m m'):∀{x:SV}{v:Value},den m x=some v->den m' x=some v
 | .b _,v,h=>by simpa[den]using h
 | .i _ _,v,h=>by simpa[den]using h
 | .si _ _,v,h=>by simpa[den]using h
 | .f _,v,h=>by simpa[den]using h
 | .fl _,v,h=>by simpa[den]using h
 | .p n off, v, h => by simp only[den,mIz]at h ⊢;obtain⟨r,hr,e⟩:=h;exact⟨r,hm.n _ _ hr,e⟩
 | .sp n off, v, h => by simp only[den,mIz]at h ⊢;obtain⟨r,hr,e⟩:=h;exact⟨r,hm.n _ _ hr,e⟩
 | .np,v,h=>by simpa[den]using h
 | .sl n off len cap, v, h => by simp only[den,mIz]at h ⊢;obtain⟨r,hr,e⟩:=h;exact⟨r,hm.n _ _ hr,e⟩
 | .ssl n off len cap, v, h => by simp only[den,mIz]at h ⊢;obtain⟨r,hr,e⟩:=h;exact⟨r,hm.n _ _ hr,e⟩
 | .osl y n len, v, h => by simp only[den,Option.bind_eq_some_iff]at h ⊢;obtain⟨r,hr,e⟩:=h;exact⟨r,hm.n _ _ hr,by rw[hm.c _ _ hr];exact e⟩
 | .fn f first cap, v, h => by simp only[den,Option.bind_eq_some_iff,mIz]at h ⊢;obtain⟨x,hx,y,hy,e⟩:=h;exact⟨x,dens_ext hm hx,y,dens_ext hm hy,e⟩
 | .o _,v,h=>by simpa[den]using h
 | .agg l, v, h => by simp only[den,mIz]at h ⊢;obtain⟨x,hx,e⟩:=h;exact⟨x,dens_ext hm hx,e⟩
 | .tup l, v, h => by simp only[den,mIz]at h ⊢;obtain⟨x,hx,e⟩:=h;exact⟨x,dens_ext hm hx,e⟩
theorem dens_ext(hm:Ext m m'):∀{l:List SV}{vs:List Value},dens m l=some vs->dens m' l=some vs
 | [],vs,h=>by simpa[dens]using h
 | x :: l, vs, h => by obtain⟨v,us,a,b,rfl⟩:=dens_cons_some.1 h;exact dens_cons (den_ext hm a) (dens_ext hm b)
end
def toF(w:Nat):Bu.F:=if w<9223372036854775808 then Bu.F.of (w:Int)else Bu.F.of (-((w-9223372036854775808:Nat):Int))
theorem toF_b{w:Nat}(h:Bu.rightB w=true):(toF w).b=w:=by
 have e:=Bu.T_num;unfold Bu.rightB at h;simp only[Bool.or_eq_true,aTz,decide_eq_true_eq]at h;unfold toF;split
 ·rename_i hlt;rw[Bu.F.b,Bu.F.of_k (by omega),if_pos (by omega)];omega
 ·rename_i hlt;rw[Bu.F.b,Bu.F.of_k (by omega),if_neg (by omega)];omega
theorem toF_F(x:Bu.F):toF x.b=x:=Bu.F.b_inj (toF_b (Bu.right_F x))
def ofW(w:Nat):SV:=if Bu.rightB w=true then .fl (toF w)else .f w
theorem den_ofW(w:Nat):den m (ofW w)=some (.float .f64 w):=by
 unfold ofW;split
 ·rename_i h;simp[den,toF_b h]
 ·simp[den]
mutual
def ofV:Value->SV
 | .bool c=> .b c
 | .int k n=> .i k n
 | .float k x=>match k with| .f64=>ofW x| .f32=> .o (.float .f32 x)
 | .pointer none=> .np
 | .agg cs=> .agg (ofA cs)
 | .tuple cs=> .tup (ofA cs)
 |v=> .o v
def ofA:Array Value->List SV
 |⟨l⟩=>ofVs l
def ofVs:List Value->List SV
 | []=>[]
 |v::l=>ofV v::ofVs l
end
mutual
theorem den_ofV:∀v:Value,den m (ofV v)=some v
 | .bool c=>by simp[ofV,den]
 | .int k n=>by simp[ofV,den]
 | .float k x=>by cases k<;>simp[ofV,den,den_ofW]
 | .complex _ _ _=>by simp[ofV,den]
 | .string _=>by simp[ofV,den]
 | .pointer none=>by simp[ofV,den]
 | .pointer (some a)=>by simp[ofV,den]
 | .slice _ _ _=>by simp[ofV,den]
 | .map _=>by simp[ofV,den]
 | .chan _=>by simp[ofV,den]
 | .func _ _ _=>by simp[ofV,den]
 | .nilFunc=>by simp[ofV,den]
 | .iface _ _=>by simp[ofV,den]
 | .nilIface=>by simp[ofV,den]
 | .agg cs=>by simp[ofV,den,dens_ofA cs]
 | .tuple cs=>by simp[ofV,den,dens_ofA cs]
theorem dens_ofA:∀l:Array Value,dens m (ofA l)=some l.toList
 |⟨l⟩=>by simp only[ofA];exact dens_ofVs l
theorem dens_ofVs:∀l:List Value,dens m (ofVs l)=some l
 | []=>by simp[ofVs,dens]
 |v::l=>by rw[ofVs];exact dens_cons (den_ofV v) (dens_ofVs l)
end
mutual
def plain:SV->Option Value
 | .b c=>some (.bool c)
 | .i k n=>some (.int k n)
 | .si k n=>some (.int k n)
 | .f x=>some (.float .f64 x)
 | .fl x=>some (.float .f64 x.b)
 | .np=>some (.pointer none)
 | .o v=>some v
 | .agg l=>(plains l).map fun x=> .agg x.toArray
 | .tup l=>(plains l).map fun x=> .tuple x.toArray
 |_=>none
def plains:List SV->Option (List Value)
 | []=>some []
 |x::l=>(plain x).bind fun v=>(plains l).map fun vs=>v::vs
end
mutual
theorem den_plain:∀{x:SV}{v:Value},plain x=some v->den m x=some v
 | .b _,v,h=>by simpa[den,plain]using h
 | .i _ _,v,h=>by simpa[den,plain]using h
 | .si _ _,v,h=>by simpa[den,plain]using h
 | .f _,v,h=>by simpa[den,plain]using h
 | .fl _,v,h=>by simpa[den,plain]using h
 | .p _ _,v,h=>by simp[plain]at h
 | .sp _ _,v,h=>by simp[plain]at h
 | .np,v,h=>by simpa[den,plain]using h
 | .sl _ _ _ _,v,h=>by simp[plain]at h
 | .ssl _ _ _ _,v,h=>by simp[plain]at h
 | .osl _ _ _,v,h=>by simp[plain]at h
 | .fn _ _ _,v,h=>by simp[plain]at h
 | .o _,v,h=>by simpa[den,plain]using h
 | .agg l, v, h => by simp only[plain,den,mIz]at h ⊢;obtain⟨x,hx,e⟩:=h;exact⟨x,dens_plains hx,e⟩
 | .tup l, v, h => by simp only[plain,den,mIz]at h ⊢;obtain⟨x,hx,e⟩:=h;exact⟨x,dens_plains hx,e⟩
theorem dens_plains:∀{l:List SV}{vs:List Value},plains l=some vs->dens m l=some vs
 | [],vs,h=>by simpa[dens,plains]using h
 | x :: l, vs, h => by simp only[plains,Option.bind_eq_some_iff,mIz]at h;obtain⟨v,h1,us,h2,rfl⟩:=h;exact dens_cons (den_plain h1) (dens_plains h2)
end
def pureRun{α:Type}(P:Program):Sem α->Option α
 | .pure a=>some a
 | .program k=>pureRun P (k P)
 | .mark _ k=>pureRun P k
 |_=>none
theorem pureRun_run{α:Type}{P:Program}:∀{x:Sem α}{a:α},pureRun P x=some a->∀w,x.run P w= .ok a w
 | .pure a,b,h,w=>by simp only[pureRun,sIz]at h;subst h;rfl
 | .program k,b,h,w=>by simp only[pureRun]at h;simp only[Sem.run];exact pureRun_run h w
 | .mark _ k,b,h,w=>by simp only[pureRun]at h;simp only[Sem.run];exact pureRun_run h w
 | .load _ _ _,b,h,w=>by simp[pureRun]at h
 | .store _ _ _ _,b,h,w=>by simp[pureRun]at h
 | .new _ _,b,h,w=>by simp[pureRun]at h
 | .shape _ _,b,h,w=>by simp[pureRun]at h
 | .freeze _ _ _,b,h,w=>by simp[pureRun]at h
 | .frozen _ _,b,h,w=>by simp[pureRun]at h
 | .getObj _ _,b,h,w=>by simp[pureRun]at h
 | .setObj _ _ _,b,h,w=>by simp[pureRun]at h
 | .choose _ _,b,h,w=>by simp[pureRun]at h
 | .sys _ _,b,h,w=>by simp[pureRun]at h
 | .halt _,b,h,w=>by simp[pureRun]at h
abbrev Dec:=Option (List Bool)
abbrev Obs:=List (Bool×Bool)
def ObsOk(ob:Obs):Prop:=∀p∈ob,p.1=p.2
def obsB(ob:Obs):Bool:=ob.all fun p=>p.1==p.2
theorem ObsOk.of_B{ob:Obs}(h:obsB ob=true):ObsOk ob:=by
 intro p hp;have:=List.all_eq_true.1 h p hp
 simpa using this
theorem ObsOk.left{a b:Obs}(h:ObsOk (a++b)):ObsOk a:=fun p hp=>h p (List.mem_append_left _ hp)
theorem ObsOk.right{a b:Obs}(h:ObsOk (a++b)):ObsOk b:=fun p hp=>h p (List.mem_append_right _ hp)
def takeB(ds:Dec)(c:Bool):Option (Bool×Dec×Obs):=
 match ds with
 |none=>some (c,none,[])
 |some []=>none
 |some (d::r)=>some (d,some r,[(c,d)])
theorem takeB_ok{ds ds':Dec}{c d:Bool}{ob:Obs}(h:takeB ds c=some (d,ds',ob))(ho:ObsOk ob):d=c:=by
 unfold takeB at h;split at h
 ·simp only[sIz,pIz]at h;exact h.1.symm
 ·cases h
 ·simp only[sIz,pIz]at h;obtain⟨h1,_,h3⟩:=h;rw[<-h3]at ho;have:=ho (c,_) (List.mem_singleton.2 rfl);rw[<-h1];exact this.symm
mutual
def taint:SV->Bool
 | .f _=>true
 | .fl _=>true
 | .si _ _=>true
 | .agg l=>taints l
 | .tup l=>taints l
 |_=>false
def taints:List SV->Bool
 | []=>false
 |x::l=>taint x||taints l
end
def tagV(t:Bool)(ds:Dec)(v:Value):Option (SV×Dec×Obs):=
 match t,v with
 |true,.bool c=>(takeB ds c).map fun r=>(.b r.1,r.2.1,r.2.2)
 |true,.int k n=>some (.si k n,ds,[])
 | true, .float k x => match k with
   | .f64=>some (.f x,ds,[])
   | .f32=>some (.o (.float .f32 x),ds,[])
 |_,v=>some (ofV v,ds,[])
theorem tagV_ok{t:Bool}{ds ds':Dec}{v:Value}{x:SV}{ob:Obs}(h:tagV t ds v=some (x,ds',ob))(ho:ObsOk ob)(m:Nms):den m x=some v:=by
 unfold tagV at h;split at h
 ·simp only[mIz,pIz]at h;obtain⟨⟨d,e,o⟩,h1,rfl,rfl,rfl⟩:=h;rw[takeB_ok h1 ho];simp[den]
 ·simp only[sIz,pIz]at h;obtain⟨rfl,_,_⟩:=h;simp[den]
 ·split at h<;>(simp only[sIz,pIz]at h;obtain⟨rfl,_,_⟩:=h;simp[den])
 ·simp only[sIz,pIz]at h;obtain⟨rfl,_,_⟩:=h;exact den_ofV _
def isAggT(P:Program)(t:TypeId):Option Bool:=
 match P.underlying t with
 |some (.struct _)|some (.array _ _)=>some true
 |some _=>some false
 |none=>none
def sizeT(P:Program)(t:TypeId):Option Nat:=(P.info? t).map (·.size)
section
variable {P:Program} {w:World}
theorem run_underlying{t:TypeId}{d:TypeDesc}(h:P.underlying t=some d):(underlying t).run P w= .ok d w:=by simp[underlying,h]
theorem run_sizeOf{t:TypeId}{n:Nat}(h:sizeT P t=some n):(Go.sizeOf t).run P w= .ok n w:=by unfold sizeT at h;simp only[mIz]at h;obtain⟨i,hi,rfl⟩:=h;simp[Go.sizeOf,typeInfo,hi]
theorem run_isAgg{t:TypeId}{b:Bool}(h:isAggT P t=some b):(isAgg t).run P w= .ok b w:=by
 unfold isAggT at h;unfold isAgg underlying;split at h
 ·rename_i hd;simp only[sIz]at h;subst h;simp[hd]
 ·rename_i hd;simp only[sIz]at h;subst h;simp[hd]
 ·rename_i d h1 h2 hd;simp only[sIz]at h;subst h;simp only[Sem.run_bind,run_program,Result.andThen_ok,hd];cases d<;>first|rfl|exact absurd rfl (h1 _)|exact absurd rfl (h2 _ _)
 ·cases h
end
def partS(P:Program)(t:TypeId)(l:List SV)(off:Nat):Option SV:=
 match isAggT P t with
 |some true=>(sizeT P t).map fun s=> .agg ((l.drop off).take s)
 |some false=>l[off]?
 |none=>none
theorem partS_ok{P:Program}{t:TypeId}{l:List SV}{off:Nat}{x:SV}(h:partS P t l off=some x){m:Nms}{vs:List Value}(hl:dens m l=some vs)(w:World) :
  ∃v,den m x=some v/\(part t vs.toArray off).run P w= .ok v w:=by
 unfold partS at h;split at h
 ·rename_i ha;simp only[mIz]at h;obtain⟨s,hs,rfl⟩:=h;refine⟨.agg ((vs.drop off).take s).toArray,by simp[den,dens_take (dens_drop hl off) s],?_⟩;simp only[part,Sem.run_bind,run_isAgg ha,Result.andThen_ok,if_true,run_sizeOf hs,Sem.run_pure];simp
 ·rename_i ha;obtain⟨v,hv,hd⟩:=dens_get hl h;refine⟨v,hd,?_⟩;simp[part,run_isAgg ha,hv]
 ·cases h
def SV.cells:SV->List SV
 | .agg l=>l
 | .o v=>ofA v.cells
 |x=>[x]
theorem cells_ok{m:Nms}{x:SV}{v:Value}(h:den m x=some v):dens m x.cells=some v.cells.toList:=by
 cases x with
 | agg l =>
   simp only[den,mIz]at h;obtain⟨y,hy,rfl⟩:=h
   simpa[SV.cells,Value.cells]using hy
 | o u =>
   simp only[den,sIz]at h;subst h;exact dens_ofA _
 | _ =>
   refine(dens_cons h dens_nil).trans ?_;simp only[den,sIz,mIz,Option.bind_eq_some_iff,oslV_some]at h
   first
    |(subst h;rfl)
    |(obtain⟨_,_,_,rfl⟩:=h;rfl)
    |(obtain⟨_,_,rfl⟩:=h;rfl)
    |(obtain⟨_,_,_,_,rfl⟩:=h;rfl)
def putRow(cells:List SV)(off:Nat):List SV->List SV
 | []=>cells
 |c::r=>putRow (cells.set off c) (off+1) r
def putRowV(cells:List Value)(off:Nat):List Value->List Value
 | []=>cells
 |c::r=>putRowV (cells.set off c) (off+1) r
theorem putRow_ok{m:Nms}{l:List SV}:∀{cells:List SV}{off:Nat}{cv vs:List Value},dens m cells=some cv->dens m l=some vs->dens m (putRow cells off l)=some (putRowV cv off vs):=by
 induction l with
 |nil=>intro cells off cv vs h1 h2;simp[dens]at h2;subst h2;exact h1
 | cons x l ih =>
   intro cells off cv vs h1 h2;obtain⟨v,us,a,b,rfl⟩:=dens_cons_some.1 h2;exact ih (dens_set h1 a off) b
theorem putRow_length(l:List SV):∀(cells:List SV)(off:Nat),(putRow cells off l).length=cells.length:=by
 induction l with
 |nil=>intro _ _;rfl
 |cons x l ih=>intro cells off;simp[putRow,ih]
theorem putRowV_fold(l:List Value):∀(cells:Array Value)(off j:Nat),
  ((l.zipIdx j).foldl (fun cs(c,i)=>cs.setIfInBounds (off+i) c) cells)=(putRowV cells.toList (off+j) l).toArray:=by
 induction l with
 |nil=>intro cells off j;simp[putRowV]
 | cons x l ih =>
   intro cells off j;simp only[List.zipIdx_cons,List.foldl_cons,putRowV];rw[ih];simp[Nat.add_assoc]
def fillS(place:Nat->Option (Nat×Nat))(cells:List SV):List (Nat×SV)->Option (List SV)
 | []=>some cells
 | (i, x) :: rest =>
   match place i with
   |none=>none
   | some (off, size) =>
     if x.cells.length=size/\off+x.cells.length<=cells.length then fillS place (putRow cells off x.cells) rest else none
theorem fillS_ok{m:Nms}{place:Nat->Option (Nat×Nat)}:∀{parts:List (Nat×SV)}{vparts:List (Nat×Value)}{cells out:List SV}{cv:List Value},
  vparts.map (·.1)=parts.map (·.1)->dens m (parts.map (·.2))=some (vparts.map (·.2))->fillS place cells parts=some out->dens m cells=some cv->
  ∃ov,dens m out=some ov/\Instr.fill place cv.toArray vparts=some ov.toArray
 | [], vparts, cells, out, cv, h0, h1, h2, h3 => by
   cases vparts with
   |nil=>simp[fillS]at h2;subst h2;exact⟨cv,h3,rfl⟩
   |cons a l=>simp at h0
 | (i, x) :: rest, vparts, cells, out, cv, h0, h1, h2, h3 => by
   cases vparts with
   |nil=>simp at h0
   | cons a l =>
     obtain⟨j,v⟩:=a;simp only[List.map_cons,List.cons.injEq]at h0;obtain⟨rfl,h0⟩:=h0;simp only[List.map_cons]at h1;obtain⟨v',us,hv,hl,he⟩:=dens_cons_some.1 h1;simp only[List.cons.injEq]at he;obtain⟨rfl,rfl⟩:=he;simp only[fillS]at h2;split at h2
     ·cases h2
     ·rename_i off size hp;split at h2
      ·rename_i hc;have hcv:=cells_ok hv;have hlen:=dens_length hcv;obtain⟨ov,ho,hf⟩:=fillS_ok h0 hl h2 (putRow_ok (off:=off) h3 hcv);refine⟨ov,ho,?_⟩;have h3l:=dens_length h3;simp only[Array.length_toList]at hlen;simp only[Instr.fill,hp];rw[if_neg (by simp;omega)];rw[<-hf];congr 1;rw[<-Array.foldl_toList,Array.toList_zipIdx];have:=putRowV_fold v.cells.toList cv.toArray off 0
       simpa using this
      ·cases h2
def fop:BinOp->Option (Nat->Nat->Option Nat)
 | .add=>some Ieee.double.add
 | .sub=>some Ieee.double.sub
 | .mul=>some Ieee.double.mul
 | .quo=>some Ieee.double.div
 |_=>none
def f2i(k:IntKind)(x:Nat):Option Int:=
 match (FloatKind.f64.decode x).toInt .zero with
 |some n=>if k.min<=n/\n<=k.max then some n else none
 |none=>none
def mmF(mx:Bool)(x y:Nat):Option Nat:=
 match Ieee.double.order x y with
 |none=>none
 |some .lt=>some (if mx then y else x)
 |some .gt=>some (if mx then x else y)
 |some .eq=>some (if mx then(if (FloatKind.f64.decode x).neg then y else x)else(if (FloatKind.f64.decode x).neg then x else y))
def plainOp(P:Program)(ρ:Operand->SV)(ds:Dec)(o:Oper):Option (SV×Dec×Obs):=
 if o.op.operands.all fun x=>(plain (ρ x)).isSome then
  match pureRun P (execOp (fun x=>(plain (ρ x)).getD undef) o)with
  |some (.value v)=>tagV (taints (o.op.operands.toList.map ρ)) ds v
  |_=>none
 else none
def notSelect(o:Oper):Bool:=match o.op with| .select _ _=>false|_=>true
theorem notSelect_ok{o:Oper}(h:notSelect o=true):∀cs b,o.op≠ .select cs b:=by intro cs b e;simp[notSelect,e]at h
structure PureOk (P:Program) (o:Oper) (m:Nms) (ρv:Operand->Value) (x:SV):Prop where
 out:∃v,den m x=some v/\∀w,(execOp ρv o).run P w= .ok (.value v) w
theorem plainOp_ok{P:Program}{ρ:Operand->SV}{ds ds':Dec}{o:Oper}{x:SV}{ob:Obs}(hs:notSelect o=true)(h:plainOp P ρ ds o=some (x,ds',ob))(ho:ObsOk ob)
  {m:Nms} {ρv:Operand->Value} (hρ:∀y∈o.op.operands,den m (ρ y)=some (ρv y)):PureOk P o m ρv x:=by
 unfold plainOp at h;split at h
 ·rename_i hall;have he:execOp ρv o=execOp (fun y=>(plain (ρ y)).getD undef) o:=by refine execOp_congr o (notSelect_ok hs) fun y hy=> ?_;have h1:=Array.all_eq_true_iff_forall_mem.1 hall y hy;obtain⟨v,hv⟩:=Option.isSome_iff_exists.1 h1;have h2:=den_plain (m:=m) hv;rw[hρ y hy]at h2;simp only[sIz]at h2;simp[hv,h2]
  split at h
  ·rename_i v hv;exact⟨v,tagV_ok h ho m,fun w=>by rw[he];exact pureRun_run hv w⟩
  ·cases h
 ·cases h
def fieldT(P:Program)(t:TypeId)(f:Nat):Option Field:=
 match P.underlying t with
 |some (.struct fs)=>fs[f]?
 |_=>none
def evFieldAddr(P:Program)(s:TypeId)(f:Nat):SV->Option SV
 | .p n off =>
   match fieldT P s f with
   | some fd => match sizeT P fd.type with
     |some (_+1)=>some (.p n (off+fd.offset))
     |_=>none
   |none=>none
 | .sp n off =>
   match fieldT P s f with
   | some fd => match sizeT P fd.type with
     |some (_+1)=>some (.sp n (off+fd.offset))
     |_=>none
   |none=>none
 |_=>none
def evField(P:Program)(t:TypeId)(f:Nat):SV->Option SV
 | .agg l=>(fieldT P t f).bind fun fd=>partS P fd.type l fd.offset
 |_=>none
def evIndexAddr(P:Program)(t:TypeId)(x ix:SV):Option SV:=
 match ix with
 | .i _ i =>
   match P.underlying t with
   | some (.array len elem) => match x with
     | .p n off=>if 0<=i/\i<len then(sizeT P elem).map fun s=> .p n (off+i.toNat*s)else none
     |_=>none
   | some (.slice elem) => match x with
     | .sl n off len _=>if 0<=i/\i<len then(sizeT P elem).map fun s=> .p n (off+i.toNat*s)else none
     |_=>none
   |_=>none
 |_=>none
def evIndex(P:Program)(t:TypeId)(x ix:SV):Option SV:=
 match ix with
 | .i _ i =>
   match P.underlying t with
   | some (.array len elem) => match x with
     | .agg l=>if 0<=i/\i<len then(sizeT P elem).bind fun s=>partS P elem l (i.toNat*s)else none
     |_=>none
   |_=>none
 |_=>none
def evBuild(P:Program)(t:TypeId)(parts:List (Nat×SV)):Option SV:=
 match P.info? t with
 | some ti => match ti.zero with
   | some z => match P.underlying t with
     | some (.struct fs) => match fs.toList.mapM fun f => (sizeT P f.type).map fun s => (f.offset, s) with
       |some places=>(fillS (fun i=>places[i]?) (ofA z.cells) parts).map .agg
       |none=>none
     | some (.array _ elem) => match sizeT P elem with
       |some s=>(fillS (fun i=>some (i*s,s)) (ofA z.cells) parts).map .agg
       |none=>none
     |_=>none
   |none=>none
 |none=>none
section
variable {P:Program} {m:Nms} {w:World}
theorem Addr_add(r off k:Nat):(⟨r,off,none⟩:Addr).add k=⟨r,off+k,none⟩:=by
 unfold Addr.add;by_cases h:k=0
 ·simp[h]
 ·simp[h]
theorem run_sureAddr(a:Addr):(Instr.sureAddr (.pointer (some a))).run P w= .ok a w:=rfl
theorem evFieldAddr_ok{s:TypeId}{f:Nat}{x y:SV}{v:Value}(h:evFieldAddr P s f x=some y)(hx:den m x=some v) :
  ∃u,den m y=some u/\(Instr.fieldAt s v f).run P w= .ok u w:=by
 unfold evFieldAddr at h;split at h
 all_goals first
  |cases h;done
  |skip
 all_goals
  rename_i n off;split at h
  ·rename_i fd hf;split at h
   ·rename_i k hk;simp only[sIz]at h;subst h;simp only[den,mIz]at hx;obtain⟨r,hr,rfl⟩:=hx;refine⟨.pointer (some ⟨r,off+fd.offset,none⟩),by simp only[den,hr,Option.map_some],?_⟩;unfold fieldT at hf;split at hf
    ·rename_i fs hu;simp[Instr.fieldAt,run_underlying hu,hf,run_sureAddr,fieldPlace,run_sizeOf hk,Addr_add]
    ·cases hf
   ·cases h
  ·cases h
theorem evField_ok{t:TypeId}{f:Nat}{x y:SV}{v:Value}(h:evField P t f x=some y)(hx:den m x=some v) :
  ∃u,den m y=some u/\(Instr.field t v f).run P w= .ok u w:=by
 unfold evField at h;split at h
 ·rename_i l;simp only[Option.bind_eq_some_iff]at h;obtain⟨fd,hf,hp⟩:=h;simp only[den,mIz]at hx;obtain⟨vs,hvs,rfl⟩:=hx;obtain⟨u,hu,hr⟩:=partS_ok hp hvs w;refine⟨u,hu,?_⟩;unfold fieldT at hf;split at hf
  ·rename_i fs hd;simp[Instr.field,run_underlying hd,hf,asAgg,hr]
  ·cases hf
 ·cases h
theorem evIndexAddr_ok{t:TypeId}{x ix y:SV}{v vi:Value}(h:evIndexAddr P t x ix=some y)(hx:den m x=some v)(hi:den m ix=some vi) :
  ∃u,den m y=some u/\(Instr.indexAt t v vi).run P w= .ok u w:=by
 unfold evIndexAddr at h;split at h
 ·rename_i k i;simp only[den,sIz]at hi;subst hi;split at h
  ·rename_i len elem hd;split at h
   ·rename_i n off;split at h
    ·rename_i hc;simp only[mIz]at h;obtain⟨s,hs,rfl⟩:=h;simp only[den,mIz]at hx;obtain⟨r,hr,rfl⟩:=hx;refine⟨.pointer (some ⟨r,off+i.toNat*s,none⟩),by simp[den,hr],?_⟩;simp[Instr.indexAt,asIntOf,run_underlying hd,run_sureAddr,hc,run_sizeOf hs,Addr_add]
    ·cases h
   ·cases h
  ·rename_i elem hd;split at h
   ·rename_i n off len cap;split at h
    ·rename_i hc;simp only[mIz]at h;obtain⟨s,hs,rfl⟩:=h;simp only[den,mIz]at hx;obtain⟨r,hr,rfl⟩:=hx;refine⟨.pointer (some ⟨r,off+i.toNat*s,none⟩),by simp[den,hr],?_⟩;simp[Instr.indexAt,asIntOf,run_underlying hd,hc,run_sizeOf hs,Addr_add]
    ·cases h
   ·cases h
  ·cases h
 ·cases h
def ixS:SV->Option Int
 | .i _ i=>some i
 | .si _ i=>some i
 |_=>none
theorem ixS_ok{x:SV}{i:Int}{v:Value}(h:ixS x=some i)(hx:den m x=some v):∃k,v= .int k i:=by
 unfold ixS at h;split at h<;>first|cases h;done|skip
 all_goals
  simp only[sIz]at h;subst h;simp only[den,sIz]at hx;exact⟨_,hx.symm⟩
def ixB(i:Int)(len:Nat):Bool:=decide (0<=i)&&decide (i<len)
theorem ixB_ok{i:Int}{len:Nat}(h:ixB i len=true):0<=i/\i<len:=by unfold ixB at h;simpa using h
def evIndexAddrS(P:Program)(t:TypeId)(x ix:SV):Option (SV×Obs):=
 match P.underlying t with
 | some (.slice elem) => match sizeT P elem with
   | some s => match x with
     | .osl false n len => match ix with
       | .i _ i=>if 0<=i/\i<len then some (.p n (i.toNat*s),[])else none
       | .si _ i=>some (.sp n (i.toNat*s),[(ixB i len,true)])
       |_=>none
     | .osl true n len => match ixS ix with
       |some i=>some (.sp n (i.toNat*s),[(ixB i len,true)])
       |none=>none
     | .ssl n off len _ => match ixS ix with
       |some i=>some (.sp n (off+i.toNat*s),[(ixB i len,true)])
       |none=>none
     | .sl n off len _ => match ix with
       | .si _ i=>some (.sp n (off+i.toNat*s),[(ixB i len,true)])
       |_=>none
     |_=>none
   |none=>none
 | some (.array len elem) => match sizeT P elem with
   | some s => match x with
     | .p n off => match ix with
       | .si _ i=>some (.sp n (off+i.toNat*s),[(ixB i len,true)])
       |_=>none
     | .sp n off => match ixS ix with
       |some i=>some (.sp n (off+i.toNat*s),[(ixB i len,true)])
       |none=>none
     |_=>none
   |none=>none
 |_=>none
theorem indexAt_slice{t elem:TypeId}{s r off len cap:Nat}{k:IntKind}{i:Int}(hd:P.underlying t=some (.slice elem))(hs:sizeT P elem=some s)(hc:0<=i/\i<len) :
  (Instr.indexAt t (.slice (some ⟨r,off,none⟩) len cap) (.int k i)).run P w= .ok (.pointer (some ⟨r,off+i.toNat*s,none⟩)) w:=by
 simp[Instr.indexAt,asIntOf,run_underlying hd,hc,run_sizeOf hs,Addr_add]
theorem indexAt_array{t elem:TypeId}{s r off len:Nat}{k:IntKind}{i:Int}(hd:P.underlying t=some (.array len elem))(hs:sizeT P elem=some s)(hc:0<=i/\i<len) :
  (Instr.indexAt t (.pointer (some ⟨r,off,none⟩)) (.int k i)).run P w= .ok (.pointer (some ⟨r,off+i.toNat*s,none⟩)) w:=by
 simp[Instr.indexAt,asIntOf,run_underlying hd,run_sureAddr,hc,run_sizeOf hs,Addr_add]
theorem evIndexAddrS_ok{t:TypeId}{x ix y:SV}{ob:Obs}{v vi:Value}(h:evIndexAddrS P t x ix=some (y,ob))(ho:ObsOk ob)(hx:den m x=some v)(hi:den m ix=some vi) :
  ∃u,den m y=some u/\∀w,(Instr.indexAt t v vi).run P w= .ok u w:=by
 have one:∀{c:Bool},ObsOk [(c,true)]->c=true:=fun h=>h _ (List.mem_singleton.2 rfl);unfold evIndexAddrS at h;split at h
 ·rename_i elem hd;split at h
  ·rename_i s hs;split at h
   ·rename_i n len;simp only[den,Option.bind_eq_some_iff]at hx;obtain⟨r,hr,hx⟩:=hx;obtain⟨_,rfl⟩:=oslV_some.1 hx;split at h
    ·rename_i ki i;split at h
     ·rename_i hc;simp only[sIz,pIz]at h;obtain⟨rfl,rfl⟩:=h;simp only[den,sIz]at hi;subst hi;exact⟨.pointer (some ⟨r,i.toNat*s,none⟩),by simp only[den,hr,Option.map_some],fun w=>(indexAt_slice (off:=0) hd hs hc).trans (by rw[Nat.zero_add])⟩
     ·cases h
    ·rename_i ki i;simp only[sIz,pIz]at h;obtain⟨rfl,rfl⟩:=h;simp only[den,sIz]at hi;subst hi;have hc:=ixB_ok (one ho);exact⟨.pointer (some ⟨r,i.toNat*s,none⟩),by simp only[den,hr,Option.map_some],fun w=>(indexAt_slice (off:=0) hd hs hc).trans (by rw[Nat.zero_add])⟩
    ·cases h
   ·rename_i n len;simp only[den,Option.bind_eq_some_iff]at hx;obtain⟨r,hr,hx⟩:=hx;obtain⟨_,rfl⟩:=oslV_some.1 hx;split at h
    ·rename_i i hix;simp only[sIz,pIz]at h;obtain⟨rfl,rfl⟩:=h;obtain⟨k,rfl⟩:=ixS_ok hix hi;have hc:=ixB_ok (one ho);exact⟨.pointer (some ⟨r,i.toNat*s,none⟩),by simp only[den,hr,Option.map_some],fun w=>(indexAt_slice (off:=0) hd hs hc).trans (by rw[Nat.zero_add])⟩
    ·cases h
   ·rename_i n off len cap;simp only[den,mIz]at hx;obtain⟨r,hr,rfl⟩:=hx;split at h
    ·rename_i i hix;simp only[sIz,pIz]at h;obtain⟨rfl,rfl⟩:=h;obtain⟨k,rfl⟩:=ixS_ok hix hi;have hc:=ixB_ok (one ho);exact⟨.pointer (some ⟨r,off+i.toNat*s,none⟩),by simp only[den,hr,Option.map_some],fun w=>indexAt_slice hd hs hc⟩
    ·cases h
   ·rename_i n off len cap;simp only[den,mIz]at hx;obtain⟨r,hr,rfl⟩:=hx;split at h
    ·rename_i ki i;simp only[sIz,pIz]at h;obtain⟨rfl,rfl⟩:=h;simp only[den,sIz]at hi;subst hi;have hc:=ixB_ok (one ho);exact⟨.pointer (some ⟨r,off+i.toNat*s,none⟩),by simp only[den,hr,Option.map_some],fun w=>indexAt_slice hd hs hc⟩
    ·cases h
   ·cases h
  ·cases h
 ·rename_i len elem hd;split at h
  ·rename_i s hs;split at h
   ·rename_i n off;simp only[den,mIz]at hx;obtain⟨r,hr,rfl⟩:=hx;split at h
    ·rename_i ki i;simp only[sIz,pIz]at h;obtain⟨rfl,rfl⟩:=h;simp only[den,sIz]at hi;subst hi;have hc:=ixB_ok (one ho);exact⟨.pointer (some ⟨r,off+i.toNat*s,none⟩),by simp only[den,hr,Option.map_some],fun w=>indexAt_array hd hs hc⟩
    ·cases h
   ·rename_i n off;simp only[den,mIz]at hx;obtain⟨r,hr,rfl⟩:=hx;split at h
    ·rename_i i hix;simp only[sIz,pIz]at h;obtain⟨rfl,rfl⟩:=h;obtain⟨k,rfl⟩:=ixS_ok hix hi;have hc:=ixB_ok (one ho);exact⟨.pointer (some ⟨r,off+i.toNat*s,none⟩),by simp only[den,hr,Option.map_some],fun w=>indexAt_array hd hs hc⟩
    ·cases h
   ·cases h
  ·cases h
 ·cases h
theorem evIndex_ok{t:TypeId}{x ix y:SV}{v vi:Value}(h:evIndex P t x ix=some y)(hx:den m x=some v)(hi:den m ix=some vi) :
  ∃u,den m y=some u/\(Instr.index t v vi).run P w= .ok u w:=by
 unfold evIndex at h;split at h
 ·rename_i k i;simp only[den,sIz]at hi;subst hi;split at h
  ·rename_i len elem hd;split at h
   ·rename_i l;split at h
    ·rename_i hc;simp only[Option.bind_eq_some_iff]at h;obtain⟨s,hs,hp⟩:=h;simp only[den,mIz]at hx;obtain⟨vs,hvs,rfl⟩:=hx;obtain⟨u,hu,hr⟩:=partS_ok hp hvs w;refine⟨u,hu,?_⟩;simp[Instr.index,asIntOf,run_underlying hd,hc,run_sizeOf hs,hr]
    ·cases h
   ·cases h
  ·cases h
 ·cases h
theorem run_mapM_sizes(fs:List Field):∀places,(fs.mapM fun f=>(sizeT P f.type).map fun s=>(f.offset,s))=some places->
  (fs.mapM fun f=>(do pure (f.offset,<-Go.sizeOf f.type):Sem (Nat×Nat))).run P w= .ok places w:=by
 induction fs with
 |nil=>intro places h;simp at h;subst h;simp
 | cons f fs ih =>
   intro places h;simp only[List.mapM_cons,Option.bind_eq_bind,Option.bind_eq_some_iff,mIz]at h;obtain⟨a,⟨s,hs,rfl⟩,bs,hb,he⟩:=h;simp only[pure,sIz]at he;subst he;simp only[List.mapM_cons,Sem.run_bind,run_sizeOf hs,Result.andThen_ok,Sem.run_pure];rw[ih bs hb];simp
theorem evBuild_ok{t:TypeId}{parts:List (Nat×SV)}{vparts:List (Nat×Value)}{y:SV}(h:evBuild P t parts=some y)
  (h0:vparts.map (·.1)=parts.map (·.1)) (h1:dens m (parts.map (·.2))=some (vparts.map (·.2))) :
  ∃u,den m y=some u/\(Instr.build t vparts.toArray).run P w= .ok u w:=by
 unfold evBuild at h;split at h
 ·rename_i ti hti;split at h
  ·rename_i z hz;have hzero:(zeroValue t).run P w= .ok z w:=by simp[zeroValue,typeInfo,hti,hz]
   have hzc:dens m (ofA z.cells)=some z.cells.toList:=dens_ofA _;split at h
   ·rename_i fs hd;split at h
    ·rename_i places hp;simp only[mIz]at h;obtain⟨out,ho,rfl⟩:=h;obtain⟨ov,h2,h3⟩:=fillS_ok h0 h1 ho hzc;refine⟨.agg ov.toArray,by simp[den,h2],?_⟩;have hm:(fs.mapM fun f=>(do pure (f.offset,<-Go.sizeOf f.type):Sem (Nat×Nat))).run P w= .ok places.toArray w:=by rw[<-Array.toArray_toList (xs:=fs),List.mapM_toArray];simp only[Sem.run_map];rw[run_mapM_sizes fs.toList places hp];rfl
     simp only[Instr.build,Sem.run_bind,hzero,Result.andThen_ok,run_underlying hd]
     erw [hm]
     simp only[Result.andThen_ok];have h4:Instr.fill (fun x=>places[x]?) z.cells vparts=some ov.toArray:=by simpa using h3
     simp[h4]
    ·cases h
   ·rename_i n elem hd;split at h
    ·rename_i s hs;simp only[mIz]at h;obtain⟨out,ho,rfl⟩:=h;obtain⟨ov,h2,h3⟩:=fillS_ok h0 h1 ho hzc;refine⟨.agg ov.toArray,by simp[den,h2],?_⟩;have h4:Instr.fill (fun i=>some (i*s,s)) z.cells vparts=some ov.toArray:=by simpa using h3
     simp only[Instr.build,Sem.run_bind,hzero,Result.andThen_ok,run_underlying hd,run_sizeOf hs];simp[h4]
    ·cases h
   ·cases h
  ·cases h
 ·cases h
end
end Rx
namespace Bu
open Ieee
def near(n d:Nat):Nat:=
 let r:=fl (n/d)
 if 2*n<(nv r+nv (r+1))*d then r else if (nv r+nv (r+1))*d<2*n then r+1 else if r%2=0 then r else r+1
theorem cut_even(neg:Bool)(n drop:Nat):Toward.even.cut neg n drop=
  n/2^drop+(if 2^drop<2*(n%2^drop)||(2^drop==2*(n%2^drop)&&n/2^drop%2==1)then 1 else 0):=by
 unfold Toward.cut;simp only[Nat.shiftLeft_eq,Nat.one_mul];by_cases h:drop<=n.log2+2
 ·rw[Nat.min_eq_left h];generalize 2^drop=g;by_cases c:(decide (g<2*(n%g))||(g==2*(n%g)&&n/g%2==1))=true
  ·simp only[c,if_true];rfl
  ·simp only[c];rfl
 ·rw[Nat.min_eq_right (by omega)];have h1:=Nat.lt_log2_self (n:=n);have h2:2^(n.log2+2)=2*2^(n.log2+1):=by rw[Nat.pow_succ _ (n.log2+1),Nat.mul_comm]
  have h3:2^(n.log2+2)<=2^drop:=Nat.pow_le_pow_right (by omega) (by omega);generalize 2^(n.log2+1)=u at*;generalize 2^(n.log2+2)=g at*;generalize 2^drop=k at*;rw[Nat.div_eq_of_lt (by omega),Nat.mod_eq_of_lt (by omega),Nat.div_eq_of_lt (by omega),Nat.mod_eq_of_lt (by omega)];have a:¬g<2*n:=by omega
  have b:(g==2*n)=false:=by rw[beq_eq_false_iff_ne];omega
  have c:¬k<2*n:=by omega
  have d:(k==2*n)=false:=by rw[beq_eq_false_iff_ne];omega
  simp[a,b,c,d];rw[Nat.mod_eq_of_lt (by omega)];omega
theorem near_mk{n d s m:Nat}(hd:0<d)(hm:m<2*P)(h2:s=0\/P<=m)(h3:m*2^s<=n/d)(h4:n/d<(m+1)*2^s) :
  near n d=if 2*n<(2*m+1)*2^s*d then s*P+m else if (2*m+1)*2^s*d<2*n then s*P+m+1 else if m%2=0 then s*P+m else s*P+m+1:=by
 unfold near;simp only;rw[fl_mk hm h2 h3 h4,nv_mk s m (by omega) h2,Nat.add_assoc (s*P),nv_mk s (m+1) (by omega) (by omega)];have e:m*2^s+(m+1)*2^s=(2*m+1)*2^s:=by rw[<-Nat.add_mul];congr 1;omega
 rw[e];have e2:(s*P+m)%2=m%2:=by rw[show P=2*2251799813685248 from rfl,<-Nat.mul_assoc,Nat.mul_comm s 2,Nat.mul_assoc];omega
 rw[e2]
theorem nearest_eq(neg:Bool)(mag:Nat)(place:Int)(hmag:mag≠0) :
  double.nearest neg mag place=double.word neg (min (near (mag*2^(place+1074).toNat) (2^(-(place+1074)).toNat)) T):=by
 unfold Format.nearest;rw[if_neg hmag,dbl_bin,dbl_inf,dbl_least];simp only;have hf:(double.fractionBits:Int)=52:=rfl;rw[hf];congr 2
 -- s: the last place,from the least one on
 obtain⟨s,hs⟩:∃s:Nat,max (place+(mag.log2:Int)-52) (-1074)=(s:Int)-1074:=⟨(max (place+(mag.log2:Int)-52) (-1074)+1074).toNat,by omega⟩;rw[hs];have e0:((s:Int)-1074 - -1074).toNat=s:=by omega
 rw[e0,cut_even];have hl:=Nat.lt_log2_self (n:=mag);have hl2:=Nat.log2_self_le hmag;rw[Nat.shiftLeft_eq]
 -- the number,times S,is n / d
 obtain⟨a,ha⟩:∃a,a=(place+1074).toNat:=⟨_,rfl⟩;obtain⟨b,hb⟩:∃b,b=(-(place+1074)).toNat:=⟨_,rfl⟩;obtain⟨u,hu⟩:∃u,u=(place-((s:Int)-1074)).toNat:=⟨_,rfl⟩;obtain⟨v,hv⟩:∃v,v=((s:Int)-1074-place).toNat:=⟨_,rfl⟩;rw[<-ha,<-hb,<-hu,<-hv]
 -- u + s + b = a + v,and of u,v one is 0; of a,b one is 0
 have r1:u+s+b=a+v:=by omega
 have r2:u=0\/v=0:=by omega
 have r3:a=0\/b=0:=by omega
 -- q: what is kept; t: the rest
 have hg0:=Nat.two_pow_pos v;have hq:=Nat.div_add_mod (mag*2^u) (2^v);have ht:=Nat.mod_lt (mag*2^u) hg0;generalize hq':mag*2^u/2^v=q at*;generalize mag*2^u%2^v=t at*;have hd0:=Nat.two_pow_pos b
 -- n * 2^v = (2^v q + t) * 2^s * 2^b
 have hn:mag*2^a*2^v=(2^v*q+t)*2^s*2^b:=by rw[hq,Nat.mul_assoc mag,<-Nat.pow_add,<-r1,Nat.pow_add,Nat.pow_add];simp only[Nat.mul_assoc]
 generalize hN:mag*2^a=n at*;have hqm:q<2*P/\(s=0\/P<=q):=by
  constructor
  ·rw[<-hq',Nat.div_lt_iff_lt_mul hg0];by_cases hu0:u=0
   ·subst hu0;rw[Nat.pow_zero,Nat.mul_one,show 2*P=2^53 from rfl,<-Nat.pow_add];exact Nat.lt_of_lt_of_le hl (Nat.pow_le_pow_right (by omega) (by omega))
   ·have hv0:v=0:=by omega
    subst hv0;rw[Nat.pow_zero,Nat.mul_one,show 2*P=2^53 from rfl];refine Nat.lt_of_lt_of_le (Nat.mul_lt_mul_of_pos_right hl (Nat.two_pow_pos u)) ?_;rw[<-Nat.pow_add];exact Nat.pow_le_pow_right (by omega) (by omega)
  ·by_cases hs0:s=0
   ·exact Or.inl hs0
   ·right;rw[<-hq',Nat.le_div_iff_mul_le hg0];by_cases hu0:u=0
    ·subst hu0;rw[Nat.pow_zero,Nat.mul_one,P_eq,<-Nat.pow_add];exact Nat.le_trans (Nat.pow_le_pow_right (by omega) (by omega)) hl2
    ·have hv0:v=0:=by omega
     subst hv0;rw[Nat.pow_zero,Nat.mul_one,P_eq];refine Nat.le_trans ?_ (Nat.mul_le_mul_right (2^u) hl2);rw[<-Nat.pow_add];exact Nat.pow_le_pow_right (by omega) (by omega)
 have hs0:=Nat.two_pow_pos s;generalize 2^v=g at*;generalize 2^b=d at*;generalize h2s:2^s=k at*;have h3:q*2^s<=n/d:=by rw[h2s,Nat.le_div_iff_mul_le hd0];refine Nat.le_of_mul_le_mul_right ?_ hg0;rw[hn,show q*k*d*g=g*q*k*d from by grind];exact Nat.mul_le_mul_right _ (Nat.mul_le_mul_right _ (by omega))
 have h4:n/d<(q+1)*2^s:=by rw[h2s,Nat.div_lt_iff_lt_mul hd0];refine Nat.lt_of_mul_lt_mul_right (a:=g) ?_;rw[hn,show(q+1)*k*d*g=(g*q+g)*k*d from by grind];exact Nat.mul_lt_mul_of_pos_right (Nat.mul_lt_mul_of_pos_right (by omega) hs0) hd0
 rw[near_mk hd0 hqm.1 hqm.2 h3 h4,h2s]
 -- compare 2 n with (2 q + 1) k d,times g
 have hkd:0<k*d:=Nat.mul_pos hs0 hd0;have c1:2*n<(2*q+1)*k*d↔2*t<g:=by
  rw[<-Nat.mul_lt_mul_right hg0,Nat.mul_assoc 2,hn,show 2*((g*q+t)*k*d)=(2*(g*q)+2*t)*(k*d)from by grind,
   show(2*q+1)*k*d*g=(2*(g*q)+g)*(k*d)from by grind,Nat.mul_lt_mul_right hkd]
  omega
 have c2:(2*q+1)*k*d<2*n↔g<2*t:=by
  rw[<-Nat.mul_lt_mul_right hg0,Nat.mul_assoc 2 n,hn,show 2*((g*q+t)*k*d)=(2*(g*q)+2*t)*(k*d)from by grind,
   show(2*q+1)*k*d*g=(2*(g*q)+g)*(k*d)from by grind,Nat.mul_lt_mul_right hkd]
  omega
 simp only[c1,c2];by_cases d1:2*t<g
 ·have:¬g<2*t:=by omega
  have e:(g==2*t)=false:=by rw[beq_eq_false_iff_ne];omega
  simp[d1,this,e]
 ·by_cases d2:g<2*t
  ·simp[d1,d2];omega
  ·have e:(g==2*t)=true:=by rw[beq_iff_eq];omega
   by_cases d3:q%2=0
   ·simp[d1,d2,e,d3]
   ·have d4:q%2=1:=by omega
    simp[d1,d2,e,d4];omega
theorem near_exact{n d r:Nat}(hd:0<d)(h:n=nv r*d):near n d=r:=by
 unfold near;subst h;rw[Nat.mul_div_cancel _ hd,fl_nv];have h1:=nv_succ r;have:2*(nv r*d)<(nv r+nv (r+1))*d:=by rw[<-Nat.mul_assoc];exact Nat.mul_lt_mul_of_pos_right (by omega) hd
 simp[this]
theorem word_F(neg:Bool)(r:Nat)(hr:r<T)(hz:neg=true->r≠0):double.word neg r=(F.of (if neg then -(r:Int)else r)).b:=by
 unfold Format.word F.b;rw[dbl_sign];cases neg
 ·simp only[Bool.false_eq_true,if_false];rw[F.of_k (by omega)];simp
 ·simp only[if_true];rw[F.of_k (by omega),if_neg (by have:=hz rfl;omega)];omega
theorem near_ratio{n d n' d':Nat}(hd:0<d)(hd':0<d')(h:n*d'=n'*d):near n d=near n' d':=by
 have e:n/d=n'/d':=by have h1:n/d=n*d'/(d*d'):=(Nat.mul_div_mul_right n d hd').symm;have h2:n'/d'=n'*d/(d'*d):=(Nat.mul_div_mul_right n' d' hd).symm;rw[h1,h2,h,Nat.mul_comm d d']
 unfold near;rw[e];simp only;generalize nv (fl (n'/d'))+nv (fl (n'/d')+1)=k;have c1:2*n<k*d↔2*n'<k*d':=by
  rw[<-Nat.mul_lt_mul_right hd',<-Nat.mul_lt_mul_right hd,show 2*n*d'=2*(n*d')from by grind,h,show 2*(n'*d)=2*n'*d from by grind,
   show k*d*d'=k*d'*d from by grind,Nat.mul_lt_mul_right hd,Nat.mul_lt_mul_right hd]
 have c2:k*d<2*n↔k*d'<2*n':=by
  rw[<-Nat.mul_lt_mul_right hd',show 2*n*d'=2*(n*d')from by grind,h,show 2*(n'*d)=2*n'*d from by grind,
   show k*d*d'=k*d'*d from by grind,Nat.mul_lt_mul_right hd]
 simp only[c1,c2]
theorem z_natAbs(x:F):x.z.natAbs=man x.k.natAbs*2^pl x.k.natAbs:=by unfold F.z;rw[nvZ_sign];by_cases h:x.k<0<;>simp[h,Int.natAbs_mul]
theorem z_sign(x:F):(x.z<0↔x.k<0):=by have:= @nvZ_lt_iff x.k 0;rw[nvZ_zero]at this;exact this
theorem z_zero(x:F):(x.z=0↔x.k=0):=by
 constructor
 ·intro h;exact nvZ_inj (by rw[nvZ_zero];exact h)
 ·intro h;unfold F.z;rw[h,nvZ_zero]
theorem man_zero(r:Nat)(h:man r=0):r=0:=by unfold man at h;have:=P_pos;split at h<;>omega
theorem S_pow:∃s:Nat,s=1074/\S=2^s:=⟨1074,rfl,S_eq⟩
theorem two_pow_split(a b:Int)(h:0<=a+b+1074\/a+b+1074<0)(ha:-1074<=a)(hb:-1074<=b) :
  2^(a+b+1074).toNat*S=2^(a+1074).toNat*2^(b+1074).toNat*2^(-(a+b+1074)).toNat:=by
 obtain⟨s,hs,e⟩:=S_pow;rw[e,<-Nat.pow_add,<-Nat.pow_add,<-Nat.pow_add];exact congrArg (2^ ·) (by omega)
theorem mul_F(x y:F)(hx:x.k≠0)(hy:y.k≠0) :
  double.mul x.b y.b=some (double.word (decide (x.k<0)^^decide (y.k<0)) (min (near (x.z.natAbs*y.z.natAbs) S) T)):=by
 unfold Format.mul;rw[read_F,read_F];simp only[Datum.product,Option.map_some,Format.write];have m1:man x.k.natAbs≠0:=fun h=>hx (by have:=man_zero _ h;omega);have m2:man y.k.natAbs≠0:=fun h=>hy (by have:=man_zero _ h;omega);rw[nearest_eq _ _ _ (Nat.mul_ne_zero m1 m2)];have e:near (man x.k.natAbs*man y.k.natAbs*2^(-1074+(pl x.k.natAbs:Int)+(-1074+(pl y.k.natAbs:Int))+1074).toNat) (2^(-(-1074+(pl x.k.natAbs:Int)+(-1074+(pl y.k.natAbs:Int))+1074)).toNat)=near (x.z.natAbs*y.z.natAbs) S:=by refine near_ratio (Nat.two_pow_pos _) S_pos ?_;rw[z_natAbs,z_natAbs];have:=two_pow_split (-1074+(pl x.k.natAbs:Int)) (-1074+(pl y.k.natAbs:Int)) (by omega) (by omega) (by omega);rw[show(-1074+(pl x.k.natAbs:Int)+1074).toNat=pl x.k.natAbs from by omega,show(-1074+(pl y.k.natAbs:Int)+1074).toNat=pl y.k.natAbs from by omega]at this;rw[Nat.mul_assoc,this];generalize 2^pl x.k.natAbs=a;generalize 2^pl y.k.natAbs=b;grind
 rw[e]
theorem signed_scale(neg:Bool)(m:Nat)(i base:Int)(hb:-1074<=base)(h:base<=i) :
  signed neg m (i-base).toNat*((2^(base+1074).toNat:Nat):Int)=(if neg then -1 else 1)*((m*2^(i+1074).toNat:Nat):Int):=by
 rw[signed_eq,Int.mul_assoc,<-Int.natCast_mul,Nat.mul_assoc,<-Nat.pow_add,show(i-base).toNat+(base+1074).toNat=(i+1074).toNat from by omega]
theorem add_F(x y:F):double.add x.b y.b=some (if x.z+y.z=0 then 0 else double.word (decide (x.z+y.z<0)) (min (near (x.z+y.z).natAbs 1) T)):=by
 unfold Format.add;rw[read_F,read_F];simp only[Datum.sum,Option.map_some,Format.write];obtain⟨base,hbase⟩:∃b:Int,b=min (-1074+(pl x.k.natAbs:Int)) (-1074+(pl y.k.natAbs:Int)):=⟨_,rfl⟩;rw[<-hbase];have s1:=signed_scale (decide (x.k<0)) (man x.k.natAbs) (-1074+(pl x.k.natAbs:Int)) base (by omega) (by omega);have s2:=signed_scale (decide (y.k<0)) (man y.k.natAbs) (-1074+(pl y.k.natAbs:Int)) base (by omega) (by omega);rw[show(-1074+(pl x.k.natAbs:Int)+1074).toNat=pl x.k.natAbs from by omega,<-nvZ_sign]at s1;rw[show(-1074+(pl y.k.natAbs:Int)+1074).toNat=pl y.k.natAbs from by omega,<-nvZ_sign]at s2;generalize signed (decide (x.k<0)) (man x.k.natAbs) (-1074+(pl x.k.natAbs:Int)-base).toNat=u at*;generalize signed (decide (y.k<0)) (man y.k.natAbs) (-1074+(pl y.k.natAbs:Int)-base).toNat=v at*;have hp:=Nat.two_pow_pos (base+1074).toNat;have hz:x.z+y.z=(u+v)*((2^(base+1074).toNat:Nat):Int):=by unfold F.z;rw[Int.add_mul,s1,s2]
 have hpos:(0:Int)<((2^(base+1074).toNat:Nat):Int):=by omega
 have t1:x.z+y.z=0↔u+v=0:=by
  rw[hz];constructor
  ·intro h;rcases Int.mul_eq_zero.1 h with h|h
   ·exact h
   ·omega
  ·intro h;rw[h,Int.zero_mul]
 have t2:x.z+y.z<0↔u+v<0:=by rw[hz];have:=Int.mul_lt_mul_right (b:=u+v) (c:=0) hpos;rw[Int.zero_mul]at this;exact this
 by_cases h0:u+v=0
 ·rw[if_pos (t1.2 h0)];have hx0:(decide (x.k<0)&&decide (y.k<0))=false:=by rw[Bool.and_eq_false_iff];simp only[decide_eq_false_iff_not];have a1:=z_sign x;have a2:=z_sign y;have:=t1.2 h0;omega
  rw[h0];simp[hx0,Format.nearest,Format.word]
 ·rw[if_neg (fun h=>h0 (t1.1 h)),if_neg h0,nearest_eq _ _ _ (by omega)];simp only[t2];have e:near ((u+v).natAbs*2^(base+1074).toNat) (2^(-(base+1074)).toNat)=near (x.z+y.z).natAbs 1:=by refine near_ratio (Nat.two_pow_pos _) (by omega) ?_;rw[hz,Int.natAbs_mul,Int.natAbs_natCast,show(-(base+1074)).toNat=0 from by omega]
  rw[e]
theorem ofInt_F(n:Int)(h:n≠0):double.write (.number (decide (n<0)) n.natAbs 0)=double.word (decide (n<0)) (min (near (n.natAbs*S) 1) T):=by
 simp only[Format.write];rw[nearest_eq _ _ _ (by omega)];have e:near (n.natAbs*2^((0:Int)+1074).toNat) (2^(-((0:Int)+1074)).toNat)=near (n.natAbs*S) 1:=by refine near_ratio (Nat.two_pow_pos _) (by omega) ?_;obtain⟨s,hs,e⟩:=S_pow;rw[e,show((0:Int)+1074).toNat=s from by omega,show(-((0:Int)+1074)).toNat=0 from by omega]
 rw[e]
def F.neg(x:F):F:=⟨-x.k,by have:=x.hk;omega⟩
theorem F.neg_z(x:F):x.neg.z= -x.z:=nvZ_neg x.k
theorem word_sign(p:F)(h:p.k≠0):double.word (decide (p.k<0)) p.k.natAbs=p.b:=by
 have h1:=p.hk;rw[word_F _ _ (by omega) (by simp;omega)];congr 1;apply F.ext';by_cases h2:p.k<0
 ·simp only[h2,decide_true,if_true];rw[F.of_k (by omega)];omega
 ·simp only[h2,decide_false,Bool.false_eq_true,if_false];rw[F.of_k (by omega)];omega
theorem z_natAbs'(x:F):x.z.natAbs=nv x.k.natAbs:=z_natAbs x
theorem mul_exact{x y p:F}(hp:p.k≠0)(h:p.z*S=x.z*y.z):double.mul x.b y.b=some p.b:=by
 have hS:(0:Int)<S:=by have:=S_pos;omega
 have hpz:p.z≠0:=fun e=>hp ((z_zero p).1 e);have hxy:x.z*y.z≠0:=by
  rw[<-h];intro e;rcases Int.mul_eq_zero.1 e with e|e
  ·exact hpz e
  ·omega
 have hx:x.k≠0:=fun e=>hxy (by rw[(z_zero x).2 e,Int.zero_mul]);have hy:y.k≠0:=fun e=>hxy (by rw[(z_zero y).2 e,Int.mul_zero]);rw[mul_F x y hx hy,<-Int.natAbs_mul,<-h,Int.natAbs_mul,Int.natAbs_natCast,z_natAbs',near_exact S_pos rfl,Nat.min_eq_left (by have:=p.hk;omega),<-word_sign p hp];congr 2;have a1:=z_sign x;have a2:=z_sign y;have a3:=z_sign p;have a4:=(z_zero x);have a5:=(z_zero y);have s1:p.z<0↔x.z*y.z<0:=by rw[<-h];have:=Int.mul_lt_mul_right (b:=p.z) (c:=0) hS;rw[Int.zero_mul]at this;exact this.symm
 rw[Bool.eq_iff_iff];by_cases b1:x.k<0<;>by_cases b2:y.k<0
 ·have:=Int.mul_pos_of_neg_of_neg (a1.2 b1) (a2.2 b2);simp[b1,b2];omega
 ·have:=Int.mul_neg_of_neg_of_pos (a1.2 b1) (show 0<y.z by omega);simp[b1,b2];omega
 ·have:=Int.mul_neg_of_pos_of_neg (show 0<x.z by omega) (a2.2 b2);simp[b1,b2];omega
 ·have:=Int.mul_pos (show 0<x.z by omega) (show 0<y.z by omega);simp[b1,b2];omega
theorem ofInt_exact{n:Int}{p:F}(h:p.z=n*S):double.write (.number (decide (n<0)) n.natAbs 0)=p.b:=by
 have hS:(0:Int)<S:=by have:=S_pos;omega
 by_cases h0:n=0
 ·subst h0;rw[Int.zero_mul]at h;have:p=F.zero:=F.ext' ((z_zero p).1 h);subst this;decide
 ·rw[ofInt_F n h0];have hp:p.k≠0:=by
   intro e;rw[(z_zero p).2 e]at h;rcases Int.mul_eq_zero.1 h.symm with e2|e2
   ·exact h0 e2
   ·omega
  have e1:n.natAbs*S=nv p.k.natAbs*1:=by rw[<-z_natAbs',h,Int.natAbs_mul,Int.natAbs_natCast];simp
  rw[near_exact (by omega) e1,Nat.min_eq_left (by have:=p.hk;omega),<-word_sign p hp];congr 1;have s1:p.z<0↔n<0:=by rw[h];have:=Int.mul_lt_mul_right (b:=n) (c:=0) hS;rw[Int.zero_mul]at this;exact this
  have:=z_sign p;rw[Bool.eq_iff_iff];simp;omega
end Bu
namespace Bu
open Go
def wn(a b:Int):Nat:=a.toNat*18446744073709551616+b.toNat
def hi(n:Nat):Int:=((n/18446744073709551616:Nat):Int)
def lo(n:Nat):Int:=((n%18446744073709551616:Nat):Int)
def W128:Nat:=340282366920938463463374607431768211456
theorem W128_eq:W128=340282366920938463463374607431768211456:=rfl
theorem up_parts(x y n:Nat)(hn:n<=64)(hy:y<18446744073709551616) :
  (x*18446744073709551616+y)*2^n%W128/18446744073709551616=x*2^n%18446744073709551616+y/2^(64-n)
  /\(x*18446744073709551616+y)*2^n%W128%18446744073709551616=y*2^n%18446744073709551616
  /\x*2^n%18446744073709551616%2^n=0/\y/2^(64-n)<2^n/\x*2^n%18446744073709551616+y/2^(64-n)<18446744073709551616:=by
 rw[W128_eq];have hpq:2^n*2^(64-n)=18446744073709551616:=by rw[<-Nat.pow_add,show n+(64-n)=64 from by omega]
 generalize hq:2^n=q at*;generalize hp:2^(64-n)=p at*;have hp0:0<p:=by rw[<-hp];exact Nat.two_pow_pos _
 have hq0:0<q:=by rw[<-hq];exact Nat.two_pow_pos _
 have hd:=Nat.div_add_mod y p;have hm:=Nat.mod_lt y hp0;generalize y/p=u at*;generalize y%p=v at*;have hxd:=Nat.div_add_mod x p;have hxm:=Nat.mod_lt x hp0;generalize x/p=s at*;generalize x%p=t at*;have hu:u<q:=by
  have:p*u<q*p:=by omega
  rw[Nat.mul_comm p u]at this;exact Nat.lt_of_mul_lt_mul_right this
 have e1:x*q=s*18446744073709551616+t*q:=by rw[<-hxd,<-hpq];grind
 have ht:t*q+q<=18446744073709551616:=by rw[<-hpq];have:(t+1)*q<=p*q:=Nat.mul_le_mul_right _ (by omega);rw[Nat.add_mul,Nat.one_mul,Nat.mul_comm p q]at this;exact this
 have e2:y*q=u*18446744073709551616+v*q:=by rw[<-hd,<-hpq];grind
 have hv:v*q<18446744073709551616:=by rw[<-hpq,Nat.mul_comm q p];exact Nat.mul_lt_mul_of_pos_right hm hq0
 have e3:(x*18446744073709551616+y)*q=(s*18446744073709551616+t*q)*18446744073709551616+u*18446744073709551616+v*q:=by rw[Nat.add_mul,e2,<-e1];grind
 rw[e3,e1,e2];have hmod:t*q%q=0:=Nat.mul_mod_left _ _;generalize t*q=tq at*;generalize v*q=vq at*;have e4:(s*18446744073709551616+tq)%18446744073709551616=tq:=by omega
 rw[e4];refine⟨?_,?_,hmod,hu,?_⟩<;>omega
theorem up_arith_hi(a b:Int)(n:Nat)(ha:0<=a)(hb:0<=b)(hn:64<=n) :
  IntKind.u64.wrap (b*2^(n-64))=hi (wn a b*2^n%W128)/\0=lo (wn a b*2^n%W128):=by
 obtain⟨x,rfl⟩:=Int.eq_ofNat_of_zero_le ha;obtain⟨y,rfl⟩:=Int.eq_ofNat_of_zero_le hb;obtain⟨k,rfl⟩:∃k,n=64+k:=⟨n-64,by omega⟩;rw[W128_eq];have e:wn x y*2^(64+k)=(x*2^k)*340282366920938463463374607431768211456+(y*2^k)*18446744073709551616:=by unfold wn;simp only[tN];rw[Nat.pow_add,show(2:Nat)^64=18446744073709551616 from rfl];generalize 2^k=p;grind
 rw[e,IntKind.wrap_u64,show 64+k-64=k from by omega];unfold hi lo;have e2:(y:Int)*2^k=((y*2^k:Nat):Int):=by simp
 rw[e2];generalize y*2^k=p;generalize x*2^k=q;omega
theorem up_arith_lo(a b:Int)(n:Nat)(ha:0<=a)(hb:0<=b)(hb2:b<=18446744073709551615)(hn:n<64) :
  bits BinOp.or IntKind.u64 (IntKind.u64.wrap (a*2^n)) (b/2^(64-n))=hi (wn a b*2^n%W128)/\IntKind.u64.wrap (b*2^n)=lo (wn a b*2^n%W128):=by
 obtain⟨x,rfl⟩:=Int.eq_ofNat_of_zero_le ha;obtain⟨y,rfl⟩:=Int.eq_ofNat_of_zero_le hb;obtain⟨h1,h2,h3,h4,h5⟩:=up_parts x y n (by omega) (by omega);unfold hi lo wn;simp only[tN];rw[h1,h2,IntKind.wrap_u64,IntKind.wrap_u64];have e1:(x:Int)*2^n%18446744073709551616=((x*2^n%18446744073709551616:Nat):Int):=by simp
 have e2:(y:Int)*2^n%18446744073709551616=((y*2^n%18446744073709551616:Nat):Int):=by simp
 have e3:(y:Int)/2^(64-n)=((y/2^(64-n):Nat):Int):=by simp
 rw[e1,e2,e3,u64_or_nat _ _ (by omega) (by omega),nat_join n _ _ h3 h4];exact⟨rfl,rfl⟩
theorem dm(u w z p:Nat)(h:w+p<=18446744073709551616)(h2:z<p):(u*18446744073709551616+w+z)/18446744073709551616=u/\(u*18446744073709551616+w+z)%18446744073709551616=z+w:=by constructor<;>omega
theorem dn_parts(x y n:Nat)(hn:n<64)(hx:x<18446744073709551616)(hy:y<18446744073709551616) :
  (x*18446744073709551616+y)/2^n/18446744073709551616=x/2^n
  /\(x*18446744073709551616+y)/2^n%18446744073709551616=y/2^n+x*2^(64-n)%18446744073709551616
  /\x*2^(64-n)%18446744073709551616%2^(64-n)=0/\y/2^n<2^(64-n):=by
 have hpq:2^n*2^(64-n)=18446744073709551616:=by rw[<-Nat.pow_add,show n+(64-n)=64 from by omega]
 generalize hq:2^n=q at*;generalize hp:2^(64-n)=p at*;have hp0:0<p:=by rw[<-hp];exact Nat.two_pow_pos _
 have hq0:0<q:=by rw[<-hq];exact Nat.two_pow_pos _
 have hd:=Nat.div_add_mod x q;have hm:=Nat.mod_lt x hq0;have hyq:y/q<p:=by rw[Nat.div_lt_iff_lt_mul hq0,Nat.mul_comm];omega
 generalize x/q=u at*;generalize x%q=v at*
 -- x = q u + v;  (x 2^64 + y) / q = (q u + v) p + y / q
 have e:(x*18446744073709551616+y)/q=x*p+y/q:=by rw[<-hpq,show x*(q*p)+y=q*(x*p)+y from by grind,Nat.mul_add_div hq0]
 rw[e];have e1:x*p=u*18446744073709551616+v*p:=by rw[<-hd,<-hpq];grind
 have hv:v*p+p<=18446744073709551616:=by rw[<-hpq];have:(v+1)*p<=q*p:=Nat.mul_le_mul_right _ (by omega);rw[Nat.add_mul,Nat.one_mul]at this;exact this
 have hmod:v*p%p=0:=Nat.mul_mod_left _ _;rw[e1];generalize v*p=w at*;generalize y/q=z at*;have e4:(u*18446744073709551616+w)%18446744073709551616=w:=by omega
 rw[e4];obtain⟨k1,k2⟩:=dm u w z p (by omega) hyq;exact⟨k1,k2,hmod,hyq⟩
theorem dn_arith_lo(a b:Int)(n:Nat)(ha:0<=a)(ha2:a<=18446744073709551615)(hb:0<=b)(hb2:b<=18446744073709551615)(hn:n<64) :
  a/2^n=hi (wn a b/2^n)/\bits BinOp.or IntKind.u64 (b/2^n) (IntKind.u64.wrap (a*2^(64-n)))=lo (wn a b/2^n):=by
 obtain⟨x,rfl⟩:=Int.eq_ofNat_of_zero_le ha;obtain⟨y,rfl⟩:=Int.eq_ofNat_of_zero_le hb;obtain⟨h1,h2,h3,h4⟩:=dn_parts x y n hn (by omega) (by omega);unfold hi lo wn;simp only[tN];rw[h1,h2,IntKind.wrap_u64];have e1:(x:Int)*2^(64-n)%18446744073709551616=((x*2^(64-n)%18446744073709551616:Nat):Int):=by simp
 have e2:(x:Int)/2^n=((x/2^n:Nat):Int):=by simp
 have e3:(y:Int)/2^n=((y/2^n:Nat):Int):=by simp
 have e5:y/2^n<=y:=Nat.div_le_self _ _;rw[e1,e2,e3,u64_or_nat _ _ (by omega) (by omega),Nat.or_comm,nat_join (64-n) _ _ h3 h4,Nat.add_comm];exact⟨rfl,rfl⟩
theorem dn_arith_hi(a b:Int)(n:Nat)(ha:0<=a)(ha2:a<=18446744073709551615)(hb:0<=b)(hb2:b<=18446744073709551615)(hn:64<=n) :
  0=hi (wn a b/2^n)/\a/2^(n-64)=lo (wn a b/2^n):=by
 obtain⟨x,rfl⟩:=Int.eq_ofNat_of_zero_le ha;obtain⟨y,rfl⟩:=Int.eq_ofNat_of_zero_le hb;obtain⟨k,rfl⟩:∃k,n=64+k:=⟨n-64,by omega⟩;unfold hi lo wn;simp only[tN];rw[show 64+k-64=k from by omega];have e:(x*18446744073709551616+y)/2^(64+k)=x/2^k:=by rw[Nat.pow_add,<-Nat.div_div_eq_div_mul,show(2:Nat)^64=18446744073709551616 from rfl,show(x*18446744073709551616+y)/18446744073709551616=x from by omega]
 rw[e];have e3:(x:Int)/2^k=((x/2^k:Nat):Int):=by simp
 rw[e3];have:=Nat.div_le_self x (2^k);generalize x/2^k=z at*;clear e e3;omega
theorem wn_lt(a b:Int)(ha2:a<=18446744073709551615)(hb2:b<=18446744073709551615):wn a b<W128:=by unfold wn;rw[W128_eq];omega
theorem wn_hi_lo(n:Nat):wn (hi n) (lo n)=n:=by unfold wn hi lo;omega
theorem hi_nonneg(n:Nat):0<=hi n:=by unfold hi;omega
theorem lo_nonneg(n:Nat):0<=lo n:=by unfold lo;omega
theorem lo_le(n:Nat):lo n<=18446744073709551615:=by unfold lo;omega
theorem hi_le(n:Nat)(h:n<W128):hi n<=18446744073709551615:=by unfold hi;rw[W128_eq]at h;omega
theorem dn_arith_all(a b:Int)(n:Nat)(ha:0<=a)(ha2:a<=18446744073709551615)(hb:0<=b)(hb2:b<=18446744073709551615)(hn:128<=n) :
  0=hi (wn a b/2^n)/\0=lo (wn a b/2^n)/\(!a==0|| !b==0)=decide (wn a b%2^n≠0):=by
 have h1:=wn_lt a b ha2 hb2;have h2:W128<=2^n:=by rw[show W128=2^128 from rfl];exact Nat.pow_le_pow_right (by omega) hn
 rw[Nat.div_eq_of_lt (by omega),Nat.mod_eq_of_lt (by omega)];refine⟨rfl,rfl,?_⟩;rw[Bool.eq_iff_iff];have e:wn a b=a.toNat*18446744073709551616+b.toNat:=rfl;simp only[Bool.or_eq_true,Bool.not_eq_true',beq_eq_false_iff_ne,ne_eq,decide_eq_true_eq];omega
theorem lost_iff(a b:Int)(n:Nat)(ha:0<=a)(ha2:a<=18446744073709551615)(hb:0<=b)(hb2:b<=18446744073709551615) :
  (!(hi (wn a b/2^n*2^n%W128)==a)|| !(lo (wn a b/2^n*2^n%W128)==b))=decide (wn a b%2^n≠0):=by
 have hlt:=wn_lt a b ha2 hb2;have hd:=Nat.div_add_mod (wn a b) (2^n);have hle:wn a b/2^n*2^n<=wn a b:=Nat.div_mul_le_self _ _;rw[Nat.mod_eq_of_lt (by omega),Bool.eq_iff_iff];simp only[Bool.or_eq_true,Bool.not_eq_true',beq_eq_false_iff_ne,ne_eq,decide_eq_true_eq];rw[Nat.mul_comm]at hd;generalize wn a b/2^n*2^n=u at*;generalize wn a b%2^n=v at*;have e:wn a b=a.toNat*18446744073709551616+b.toNat:=rfl;unfold hi lo;omega
def blen(n:Nat):Nat:=if n=0 then 0 else n.log2+1
theorem blen_of{n k:Nat}(h1:2^k<=n)(h2:n<2^(k+1)):blen n=k+1:=by
 have h0:n≠0:=by have:=Nat.two_pow_pos k;omega
 unfold blen;rw[if_neg h0];have e:n.log2=k:=(Nat.log2_eq_iff h0).2 ⟨h1,h2⟩;rw[e]
theorem lib_blen(n:Nat)(h:n<18446744073709551616):Lib.bitLen n=blen n:=by
 by_cases h0:n=0
 ·subst h0;rfl
 ·obtain⟨h1,h2,h3⟩:=Lib.bitLenAux_bounds 64 n h h0;unfold Lib.bitLen;obtain⟨k,hk⟩:∃k,Lib.bitLenAux 64 n=k+1:=⟨Lib.bitLenAux 64 n-1,by omega⟩;rw[hk]at h2 h3 ⊢;rw[blen_of (k:=k) (by simpa using h2) h3]
theorem blen_wn(x y:Nat)(hy:y<18446744073709551616):blen (wn (x:Int) (y:Int))=if x>0 then 64+blen x else blen y:=by
 unfold wn;simp only[tN];by_cases h:x>0
 ·rw[if_pos h];have h0:x≠0:=by omega
  have a1:=Nat.lt_log2_self (n:=x);have a2:=Nat.log2_self_le h0;have e:blen x=x.log2+1:=by unfold blen;rw[if_neg h0]
  rw[e,blen_of (k:=x.log2+64)]
  ·omega
  ·rw[Nat.pow_add,show(2:Nat)^64=18446744073709551616 from rfl];generalize 2^x.log2=u at*;omega
  ·rw[show x.log2+64+1=(x.log2+1)+64 from by omega,Nat.pow_add _ _ 64,show(2:Nat)^64=18446744073709551616 from rfl];generalize 2^(x.log2+1)=u at*;omega
 ·have:x=0:=by omega
  subst this;simp
theorem blen_le{n k:Nat}(h:n<2^k):blen n<=k:=by
 unfold blen;split
 ·omega
 ·rename_i h0;have:=(Nat.log2_lt h0).2 h;omega
theorem blen_wn_le(a b:Int)(ha2:a<=18446744073709551615)(hb2:b<=18446744073709551615):blen (wn a b)<=128:=
 blen_le (wn_lt a b ha2 hb2)
def cutN(n:Nat)(e:Int):Nat:=max (blen n-53) (-1074-e).toNat
theorem lt_blen(n:Nat):n<2^blen n:=by
 unfold blen;split
 ·omega
 ·exact Nat.lt_log2_self
theorem cut_lt(n:Nat)(e:Int):n/2^cutN n e<9007199254740992:=by rw[Nat.div_lt_iff_lt_mul (Nat.two_pow_pos _),show 9007199254740992=2^53 from rfl,<-Nat.pow_add];refine Nat.lt_of_lt_of_le (lt_blen n) (Nat.pow_le_pow_right (by omega) ?_);unfold cutN;omega
end Bu
namespace Bu
open Go Go.RowKit
theorem and_mask(x n:Nat)(hx:x<18446744073709551616)(hn:n<=63):bits BinOp.and IntKind.u64 (x:Int) (((2^n-1:Nat):Int))=((x%2^n:Nat):Int):=by have h1:2^n<=2^63:=Nat.pow_le_pow_right (by omega) hn;rw[u64_and_nat _ _ hx (by omega),Nat.and_two_pow_sub_one_eq_mod]
theorem b_parts(x:F):x.b%P=x.k.natAbs%P/\x.b/P%2048=x.k.natAbs/P/\x.k.natAbs/P<2047:=by have h1:=x.hk;have e:=T_num;unfold F.b P;split<;>omega
theorem b_frac(x:F):bits BinOp.and IntKind.u64 (x.b:Int) 4503599627370495=((x.k.natAbs%P:Nat):Int):=by have h:=and_mask x.b 52 (by have:=x.b_lt;omega) (by omega);rw[show((2^52-1:Nat):Int)=4503599627370495 from by decide,<-P_eq,(b_parts x).1]at h;exact h
theorem b_exp(x:F):bits BinOp.and IntKind.u64 ((x.b:Int)/4503599627370496) 2047=((x.k.natAbs/P:Nat):Int):=by have h:=and_mask (x.b/P) 11 (by have:=x.b_lt;have:=Nat.div_le_self x.b P;omega) (by omega);rw[show((2^11-1:Nat):Int)=2047 from by decide,show 2^11=2048 from rfl,(b_parts x).2.1]at h;rw[show(x.b:Int)/4503599627370496=((x.b/P:Nat):Int)from by rw[P];omega];exact h
theorem or_hid(x:Nat):bits BinOp.or IntKind.u64 ((x%P:Nat):Int) 4503599627370496=((P+x%P:Nat):Int):=by have h1:x%P<P:=Nat.mod_lt _ P_pos;have e:P=4503599627370496:=rfl;have h:=u64_or_nat (x%P) 4503599627370496 (by omega) (by omega);rw[Nat.or_comm,nat_join 52 4503599627370496 (x%P) (by decide) (by rw[<-P_eq];exact h1)]at h;rw[show((4503599627370496:Int))=((4503599627370496:Nat):Int)from rfl,h];rfl
theorem i64_and_nat(a b:Nat)(ha:a<9223372036854775808)(hb:b<9223372036854775808):bits .and .i64 (a:Int) (b:Int)=((a&&& b:Nat):Int):=by have hx:a&&& b<2^63:=Nat.and_lt_two_pow _ (by omega);show IntKind.i64.wrap ((BitVec.ofInt 64 (a:Int)&&& BitVec.ofInt 64 (b:Int)).toNat:Int)=_;rw[BitVec.toNat_and,ofInt_u64 a (by omega),ofInt_u64 b (by omega)];rw[IntKind.wrap_i64];omega
theorem b_exp_i(x:F):bits BinOp.and IntKind.i64 (wrap64 ((x.b:Int)/4503599627370496)) 2047=((x.k.natAbs/P:Nat):Int):=by have hlt:=x.b_lt;have e:P=4503599627370496:=rfl;have h:=i64_and_nat (x.b/P) 2047 (by rw[e];omega) (by omega);rw[show(2047:Nat)=2^11-1 from rfl,Nat.and_two_pow_sub_one_eq_mod,show 2^11=2048 from rfl,(b_parts x).2.1]at h;rw[show wrap64 ((x.b:Int)/4503599627370496)=((x.b/P:Nat):Int)from by rw[e];unfold wrap64;omega];exact h
def F.like(x:F)(r:Nat):F:=F.of (if x.k<0 then -(r:Int)else r)
theorem F.like_b(x:F)(r:Nat)(h0:r≠0)(h:r<T):(x.like r).b=(if x.k<0 then 9223372036854775808 else 0)+r:=by
 unfold F.like F.b;by_cases hx:x.k<0
 ·simp only[if_pos hx];rw[F.of_k (by omega),if_neg (by omega)];omega
 ·simp only[if_neg hx];rw[F.of_k (by omega),if_pos (by omega)];omega
theorem F.like_z(x:F)(r:Nat)(h:r<T):(x.like r).z=if x.k<0 then -(nv r:Int)else nv r:=by
 unfold F.like F.z;rw[F.of_k (by split<;>omega)];by_cases hx:x.k<0
 ·simp only[if_pos hx];rw[nvZ_neg,nvZ_natCast]
 ·simp only[if_neg hx];rw[nvZ_natCast]
theorem F.z_like(x:F):x.z=if x.k<0 then -(nv x.k.natAbs:Int)else nv x.k.natAbs:=by have h1:=z_natAbs' x;have h2:=z_sign x;split<;>omega
theorem b_sign(x:F):x.b/9223372036854775808%2*9223372036854775808=if x.k<0 then 9223372036854775808 else 0:=by have h1:=x.hk;have e:=T_num;unfold F.b;split<;>split<;>omega
theorem ldexp_bits(x:F)(f:Nat)(h1:1<=f)(h2:f<=2046) :
  bits BinOp.or IntKind.u64 (bits BinOp.andNot IntKind.u64 (x.b:Int) 9218868437227405312) (IntKind.u64.wrap ((f:Int)*4503599627370496))=((x.like (f*P+x.k.natAbs%P)).b:Int):=by
 have hlt:=x.b_lt;have eP:P=4503599627370496:=rfl;have eT:=T_num;have hm:=Nat.mod_lt x.k.natAbs P_pos;have a1:=u64_andNot_nat x.b 9218868437227405312 (by omega) (by omega);rw[show(18446744073709551615-9218868437227405312:Nat)=2^63|||(2^52-1)from by decide,Nat.and_or_distrib_left,nat_bit 63,Nat.and_two_pow_sub_one_eq_mod]at a1;rw[show(2:Nat)^63=9223372036854775808 from rfl,show(2:Nat)^52=P from rfl,b_sign x,(b_parts x).1]at a1;have hfP:f*P<=2046*P:=Nat.mul_le_mul_right _ h2;have hfP1:1*P<=f*P:=Nat.mul_le_mul_right _ h1;have a2:IntKind.u64.wrap ((f:Int)*4503599627370496)=((f*P:Nat):Int):=by rw[IntKind.wrap_u64,eP];rw[eP]at hfP;omega
 rw[a2,show((9218868437227405312:Int))=((9218868437227405312:Nat):Int)from rfl,a1];have hs:(if x.k<0 then 9223372036854775808 else 0:Nat)=9223372036854775808\/(if x.k<0 then 9223372036854775808 else 0:Nat)=0:=by split<;>simp
 rw[F.like_b x _ (by omega) (by omega)];generalize (if x.k<0 then 9223372036854775808 else 0:Nat)=sg at*;generalize x.k.natAbs%P=m at*;have j1:f*P|||m=f*P+m:=nat_join 52 (f*P) m (by rw[show P=2^52 from rfl];exact Nat.mul_mod_left _ _) hm;have j2:sg|||(f*P+m)=sg+(f*P+m):=nat_join 63 sg (f*P+m) (by rcases hs with h|h<;>rw[h]<;>rfl) (by omega);have j3:sg|||m=sg+m:=nat_join 63 sg m (by rcases hs with h|h<;>rw[h]<;>rfl) (by omega);have b1:sg|||m<18446744073709551616:=by omega
 rw[u64_or_nat _ _ b1 (by omega),Nat.or_assoc,Nat.or_comm m,j1,j2]
theorem nv_fl_exact{m s:Nat}(h:m<=2*P):nv (fl (m*2^s))=m*2^s:=by
 by_cases h0:m=0
 ·subst h0;rw[Nat.zero_mul,fl_zero,nv_zero]
 by_cases h2:m=2*P
 ·have e:m*2^s=P*2^(s+1):=by rw[h2,Nat.pow_succ];grind
  rw[e];have:=nv_mk (s+1) P (by omega) (Or.inr (Nat.le_refl _));rw[<-this,fl_nv]
 ·-- m below 2P: lift m into the binade
  have hl:=Nat.lt_log2_self (n:=m);have hl2:=Nat.log2_self_le h0;have hlt:m<2^53:=by rw[show(2:Nat)^53=2*P from rfl];omega
  have hle:m.log2<=52:=by
   by_cases c:m.log2<=52
   ·exact c
   ·have:2^53<=2^m.log2:=Nat.pow_le_pow_right (by omega) (by omega);omega
  obtain⟨t,ht⟩:∃t,t=min s (52-m.log2):=⟨_,rfl⟩;have e:m*2^s=(m*2^t)*2^(s-t):=by rw[Nat.mul_assoc,<-Nat.pow_add];congr 2;omega
  have hb:m*2^t<2*P:=by rw[show 2*P=2^53 from rfl];refine Nat.lt_of_lt_of_le (Nat.mul_lt_mul_of_pos_right hl (Nat.two_pow_pos t)) ?_;rw[<-Nat.pow_add];exact Nat.pow_le_pow_right (by omega) (by omega)
  have hc:s-t=0\/P<=m*2^t:=by
   by_cases c:s<=52-m.log2
   ·left;omega
   ·right;rw[P_eq];refine Nat.le_trans ?_ (Nat.mul_le_mul_right (2^t) hl2);rw[<-Nat.pow_add];exact Nat.pow_le_pow_right (by omega) (by omega)
  rw[e,<-nv_mk (s-t) (m*2^t) (by omega) hc,fl_nv]
theorem nv_T:nv T=P*2^2046:=by have:=nv_mk 2046 P (by omega) (Or.inr (Nat.le_refl _));rw[<-this];rfl
theorem man_norm{r:Nat}(h:P<=r):man r=P+r%P:=by unfold man;rw[if_neg (by omega)]
theorem nv_norm{r:Nat}(h:P<=r):nv r=(P+r%P)*2^(r/P-1):=by unfold nv;rw[man_norm h];rfl
def Sc(x y:F)(n:Int):Prop:=y.z*((2^(-n).toNat:Nat):Int)=x.z*((2^n.toNat:Nat):Int)
theorem Sc.abs{x y:F}{n:Int}(h:Sc x y n):nv y.k.natAbs*2^(-n).toNat=nv x.k.natAbs*2^n.toNat:=by have h2:=congrArg Int.natAbs h;rw[Int.natAbs_mul,Int.natAbs_mul,Int.natAbs_natCast,Int.natAbs_natCast,z_natAbs',z_natAbs']at h2;exact h2
theorem Sc.sign{x y:F}{n:Int}(h:Sc x y n):(y.k<0↔x.k<0):=by
 have h1:=z_sign x;have h2:=z_sign y;unfold Sc at h;have p1:(0:Int)<((2^(-n).toNat:Nat):Int):=by have:=Nat.two_pow_pos (-n).toNat;omega
 have p2:(0:Int)<((2^n.toNat:Nat):Int):=by have:=Nat.two_pow_pos n.toNat;omega
 have a:=Int.mul_lt_mul_right (b:=y.z) (c:=0) p1;have b:=Int.mul_lt_mul_right (b:=x.z) (c:=0) p2;rw[Int.zero_mul]at a b;rw[h]at a;omega
theorem ldexp_parts{x x' y:F}{n c:Int}(h:Sc x y n)(hx:x.k≠0)(hc:c<=0)(hN:P<=x'.k.natAbs)(hxx:nv x'.k.natAbs=nv x.k.natAbs*2^(-c).toNat)(hs:x'.k<0↔x.k<0) :
  let f:=n+c+((x'.k.natAbs/P:Nat):Int)
  (1<=f/\f<=2046/\y=x'.like (f.toNat*P+x'.k.natAbs%P))\/
  (1<=f+53/\f+53<=53/\(x'.like ((f+53).toNat*P+x'.k.natAbs%P)).z=y.z*9007199254740992):=by
 intro f;have hab:=h.abs;have hsg:=h.sign;have hP:=P_pos;have hm:=Nat.mod_lt x'.k.natAbs hP;have hq1:1<=x'.k.natAbs/P:=(Nat.le_div_iff_mul_le hP).2 (by omega);have hn:=nv_norm hN;obtain⟨q,hq⟩:∃q,x'.k.natAbs/P=q+1:=⟨x'.k.natAbs/P-1,by omega⟩;have hfe:f=n+c+(q+1:Nat):=by show n+c+((x'.k.natAbs/P:Nat):Int)=_;rw[hq]
 rw[hq,Nat.add_sub_cancel]at hn
 clear_value f
 generalize x'.k.natAbs%P=fr at*
 -- y 2^A = (P + fr) 2^B
 have hAB:nv y.k.natAbs*2^((-n).toNat+(-c).toNat)=(P+fr)*2^(n.toNat+q):=by rw[Nat.pow_add,<-Nat.mul_assoc,hab,Nat.pow_add,Nat.mul_comm (2^n.toNat) (2^q),<-Nat.mul_assoc,<-hn,hxx];grind
 have hy0:y.k≠0:=by
  intro e;rw[e,Int.natAbs_zero,nv_zero,Nat.zero_mul]at hab;have:nv x.k.natAbs=0:=by
   rcases Nat.mul_eq_zero.1 hab.symm with e|e
   ·exact e
   ·have:=Nat.two_pow_pos n.toNat;omega
  have:=nv_inj (this.trans nv_zero.symm);omega
 have hypos:1<=nv y.k.natAbs:=by have:= @nv_lt 0 y.k.natAbs (by omega);rw[nv_zero]at this;omega
 by_cases hf:1<=f
 ·left;have e1:n.toNat+q=((-n).toNat+(-c).toNat)+(f.toNat-1):=by omega
  rw[e1,Nat.pow_add _ _ (f.toNat-1),Nat.mul_comm (2^_) (2^(f.toNat-1)),<-Nat.mul_assoc]at hAB;have e2:=Nat.eq_of_mul_eq_mul_right (Nat.two_pow_pos _) hAB;have e3:f.toNat*P+fr=(f.toNat-1)*P+(P+fr):=by obtain⟨g,hg⟩:∃g,f.toNat=g+1:=⟨f.toNat-1,by omega⟩;rw[hg,Nat.add_sub_cancel,Nat.add_mul];omega
  have e4:y.k.natAbs=f.toNat*P+fr:=by apply nv_inj;rw[e3,nv_mk _ _ (by omega) (Or.inr (by omega)),e2]
  have hyT:=y.hk;have hle:f<=2046:=by
   by_cases c:f.toNat<=2046
   ·omega
   ·have:2047*P<=f.toNat*P:=Nat.mul_le_mul_right _ (by omega);rw[T_eq]at hyT;omega
  refine⟨hf,hle,?_⟩;apply F.z_inj;rw[F.like_z _ _ (by omega),F.z_like,e4];by_cases k1:x'.k<0
  ·rw[if_pos k1,if_pos (by omega)]
  ·rw[if_neg k1,if_neg (by omega)]
 ·right;have e1:(-n).toNat+(-c).toNat=(n.toNat+q)+(1-f).toNat:=by omega
  rw[e1,Nat.pow_add _ _ (1-f).toNat,Nat.mul_comm (2^(n.toNat+q)),<-Nat.mul_assoc]at hAB;have e2:=Nat.eq_of_mul_eq_mul_right (Nat.two_pow_pos _) hAB;have hlt:(1-f).toNat<53:=by
   by_cases c:(1-f).toNat<53
   ·exact c
   ·have a1:2^53<=2^(1-f).toNat:=Nat.pow_le_pow_right (by omega) (by omega);have a2:1*2^(1-f).toNat<=nv y.k.natAbs*2^(1-f).toNat:=Nat.mul_le_mul_right _ hypos;rw[show(2:Nat)^53=2*P from rfl]at a1;omega
  have g1:1<=f+53:=by omega
  have hT:(f+53).toNat*P+fr<T:=by have:(f+53).toNat*P<=53*P:=Nat.mul_le_mul_right _ (by omega);rw[T_eq];omega
  refine⟨g1,by omega,?_⟩;rw[F.like_z _ _ hT,F.z_like y];have e3:(f+53).toNat*P+fr=((f+53).toNat-1)*P+(P+fr):=by obtain⟨g,hg⟩:∃g,(f+53).toNat=g+1:=⟨(f+53).toNat-1,by omega⟩;rw[hg,Nat.add_sub_cancel,Nat.add_mul];omega
  have e4:nv ((f+53).toNat*P+fr)=nv y.k.natAbs*9007199254740992:=by rw[e3,nv_mk _ _ (by omega) (Or.inr (by omega)),<-e2,Nat.mul_assoc,<-Nat.pow_add];congr 1;rw[show(1-f).toNat+((f+53).toNat-1)=53 from by omega]
  rw[e4];by_cases k1:x'.k<0
  ·rw[if_pos k1,if_pos (by omega)];omega
  ·rw[if_neg k1,if_neg (by omega)];omega
theorem lift_sub(x:F)(h:x.k.natAbs<P)(h0:x.k≠0):∃x':F,x'.z=x.z*4503599627370496/\P<=x'.k.natAbs/\nv x'.k.natAbs=nv x.k.natAbs*2^52/\(x'.k<0↔x.k<0):=by
 have e1:nv x.k.natAbs=x.k.natAbs:=by
  have:=nv_mk 0 x.k.natAbs (by omega) (Or.inl rfl)
  simpa using this
 have e2:=nv_fl_exact (m:=x.k.natAbs) (s:=52) (by omega);have hr:fl (x.k.natAbs*2^52)<T:=by have a1:x.k.natAbs*2^52<=P*2^52:=Nat.mul_le_mul_right _ (by omega);have a2:=fl_mono a1;have a3:=nv_mk 52 P (by omega) (Or.inr (Nat.le_refl _));rw[<-a3,fl_nv]at a2;have e:P=4503599627370496:=rfl;have e2:=T_num;omega
 have hP:P<=fl (x.k.natAbs*2^52):=by rw[le_fl];have:=nv_mk 0 P (by omega) (Or.inl rfl);rw[Nat.zero_mul,Nat.zero_add,Nat.pow_zero,Nat.mul_one]at this;rw[this,P_eq];have:1*2^52<=x.k.natAbs*2^52:=Nat.mul_le_mul_right _ (by omega);omega
 have hk:(x.like (fl (x.k.natAbs*2^52))).k=if x.k<0 then -(fl (x.k.natAbs*2^52):Int)else fl (x.k.natAbs*2^52):=by unfold F.like;rw[F.of_k (by split<;>omega)]
 have hka:(x.like (fl (x.k.natAbs*2^52))).k.natAbs=fl (x.k.natAbs*2^52):=by rw[hk];split<;>omega
 refine⟨x.like (fl (x.k.natAbs*2^52)),?_,by rw[hka];exact hP,by rw[hka,e2,e1],?_⟩
 ·rw[F.like_z _ _ hr,e2,F.z_like,e1];split<;>omega
 ·rw[hk];have:=P_pos;split<;>omega
def F.dy(m:Nat)(e:Int):F:=F.of (fl (m*2^(e+1074).toNat):Nat)
theorem dy_lt{m:Nat}{e:Int}(he:-1074<=e)(h:(blen m:Int)+e<=1024):fl (m*2^(e+1074).toNat)<T:=by
 have h1:=lt_blen m;have h2:m*2^(e+1074).toNat<nv T:=by rw[nv_T];refine Nat.lt_of_lt_of_le (Nat.mul_lt_mul_of_pos_right h1 (Nat.two_pow_pos _)) ?_;rw[<-Nat.pow_add];obtain⟨t,ht⟩:∃t:Nat,t=2046:=⟨_,rfl⟩;rw[<-ht,show P*2^t=2^(52+t)from by rw[Nat.pow_add];rfl];exact Nat.pow_le_pow_right (by omega) (by omega)
 have h3:=nv_fl_le (m*2^(e+1074).toNat);exact nv_lt_iff.1 (by omega)
theorem dy_z{m:Nat}{e:Int}(hm:m<=2*P)(he:-1074<=e)(h:(blen m:Int)+e<=1024):(F.dy m e).z=((m*2^(e+1074).toNat:Nat):Int):=by have:=dy_lt he h;unfold F.dy F.z;rw[F.of_k (by omega),nvZ_natCast,nv_fl_exact hm]
theorem dy_k{m:Nat}{e:Int}(he:-1074<=e)(h:(blen m:Int)+e<=1024):(F.dy m e).k=(fl (m*2^(e+1074).toNat):Nat):=by have:=dy_lt he h;unfold F.dy;rw[F.of_k (by omega)]
theorem blen_2P{m:Nat}(hm:m<=2*P):blen m<=54:=by apply blen_le;have:P=4503599627370496:=rfl;omega
theorem nat_z{m:Nat}(hm:m<=2*P):(F.dy m 0).z=(m:Int)*S:=by have:=blen_2P hm;rw[dy_z hm (by omega) (by omega)];obtain⟨s,hs,e⟩:=S_pow;rw[e,show((0:Int)+1074).toNat=s from by omega];simp
theorem nat_conv{m:Nat}(hm:m<=2*P):Ieee.double.write (.number (decide ((m:Int)<0)) (m:Int).natAbs 0)=(F.dy m 0).b:=
 ofInt_exact (nat_z hm)
theorem nat_Sc{m:Nat}{e:Int}(hm:m<=2*P)(he:-1074<=e)(h:(blen m:Int)+e<=1024):Sc (F.dy m 0) (F.dy m e) e:=by unfold Sc;rw[nat_z hm,dy_z hm he h];obtain⟨s,hs,e2⟩:=S_pow;rw[e2,<-Int.natCast_mul,<-Int.natCast_mul,<-Int.natCast_mul,Nat.mul_assoc,Nat.mul_assoc,<-Nat.pow_add,<-Nat.pow_add];rw[show(e+1074).toNat+(-e).toNat=s+e.toNat from by omega]
theorem dy_max:F.dy 9007199254740991 971=F.max:=by decide+kernel
def F.turn(minus:Bool)(x:F):F:=if minus then x.neg else x
def rndOut(minus away:Bool)(m:Nat)(e:Int):F×Int:=
 if m=0 then(F.zero,0)else if 1024<(blen m:Int)+e then(if away then(F.zero,10)else(F.turn minus F.max,0))else(F.turn minus (F.dy m e),0)
theorem xor_top(r:Nat)(h:r<2^63):r^^^2^63=2^63+r:=by
 have e0:=Nat.two_pow_add_eq_or_of_lt h 1;rw[Nat.mul_one]at e0;rw[e0];apply Nat.eq_of_testBit_eq;intro i;rw[Nat.testBit_xor,Nat.testBit_or,Nat.testBit_two_pow];by_cases e:63=i
 ·subst e;rw[Nat.testBit_lt_two_pow h];rfl
 ·simp[e]
theorem negFloat_F(x:F)(h:x.k≠0):Op.negFloat .f64 x.b=x.neg.b:=by
 show x.b^^^2^63=x.neg.b;have h1:=x.hk;have e:=T_num;unfold F.neg F.b;simp only;by_cases h2:0<=x.k
 ·rw[if_pos h2,if_neg (by omega),xor_top _ (by omega)];omega
 ·rw[if_neg h2,if_pos (by omega)];have:=xor_top (-x.k).toNat (by omega);rw[show 9223372036854775808+(-x.k).toNat=(-x.k).toNat^^^2^63 from this.symm,Nat.xor_assoc,Nat.xor_self,Nat.xor_zero]
theorem F.max_k:F.max.k=9218868437227405311:=rfl
theorem dy_pos{m:Nat}{e:Int}(hm:m<=2*P)(h0:m≠0)(he:-1074<=e)(h:(blen m:Int)+e<=1024):(F.dy m e).k≠0:=by intro c;have h1:=(z_zero _).2 c;rw[dy_z hm he h]at h1;have h2:m*2^(e+1074).toNat≠0:=Nat.mul_ne_zero h0 (by have:=Nat.two_pow_pos (e+1074).toNat;omega);omega
def mUp(minus more up lost:Bool)(m0:Nat):Nat:=if (up != minus)&&(lost||more)then m0+1 else m0
def rndG(minus:Bool)(n:Nat)(more:Bool)(e:Int)(up:Bool):F×Int:=
 rndOut minus (up != minus) (mUp minus more up (decide (n%2^cutN n e≠0)) (n/2^cutN n e)) (e+cutN n e)
theorem turn_false(x:F):F.turn false x=x:=rfl
theorem turn_true(x:F):F.turn true x=x.neg:=rfl
attribute [irreducible] F.dy F.turn
end Bu
