/- Directed rounding of a quotient (times S), and that 'rounded' does it. Sums, products and .. -/
import Derived.WalkSpells
import Derived.WalkLawsBesides
import Derived.Lib.Hide
import Derived.Test.YtejcekikbnlllaaGreatShelf
import Derived.RegionTactic
import Derived.Deep.QuietTactic
import Derived.BigQuiet
import Derived.Deep.RegionWith
import Derived.Deep.RegionHeld3
import Derived.Outline
import Derived.Deep.DeepCutAuto
import Derived.Test.YtejcekikbnlllaaGreatU04
set_option linter.all false
set_option maxRecDepth 100000
open Go.Proofs.Tryz(prog)
namespace Bu
def flQ(A B:Nat):Nat:=fl (A/B)
def ceQ(A B:Nat):Nat:=ce ((A+B-1)/B)
theorem le_flQ{r A B:Nat}(hB:0<B):r<=flQ A B↔nv r*B<=A:=by unfold flQ;rw[le_fl,Nat.le_div_iff_mul_le hB]
theorem ceQ_le{r A B:Nat}(hB:0<B):ceQ A B<=r↔A<=nv r*B:=by
 unfold ceQ;rw[ce_le];constructor
 ·intro h;have h1:(A+B-1)/B<nv r+1:=by omega
  rw[Nat.div_lt_iff_lt_mul hB,Nat.add_mul,Nat.one_mul]at h1;omega
 ·intro h;have h1:(A+B-1)/B<nv r+1:=by rw[Nat.div_lt_iff_lt_mul hB,Nat.add_mul,Nat.one_mul];omega
  omega
theorem flQ_eq{r A B:Nat}(hB:0<B)(h1:nv r*B<=A)(h2:A<nv (r+1)*B):flQ A B=r:=by
 have a:=(le_flQ hB).2 h1;have b:¬(r+1<=flQ A B):=by rw[le_flQ hB];omega
 omega
theorem ceQ_eq{r A B:Nat}(hB:0<B)(h1:nv r*B<A)(h2:A<=nv (r+1)*B):ceQ A B=r+1:=by
 have a:=(ceQ_le hB).2 h2;have b:¬(ceQ A B<=r):=by rw[ceQ_le hB];omega
 omega
theorem ceQ_exact{r A B:Nat}(hB:0<B)(h:A=nv r*B):ceQ A B=r:=by
 have a:=(ceQ_le (r:=r) (A:=A) hB).2 (by omega);have b:r<=ceQ A B:=by
  have h2:=(ceQ_le (A:=A) hB).1 (Nat.le_refl _);have h3:nv r*B<=nv (ceQ A B)*B:=by rw[<-h];exact h2
  exact nv_le_iff.1 (Nat.le_of_mul_le_mul_right h3 hB)
 omega
def flI(A:Int)(B:Nat):Int:=if 0<=A then(flQ A.toNat B:Int)else -(ceQ (-A).toNat B:Int)
def ceI(A:Int)(B:Nat):Int:= -(flI (-A) B)
theorem ceQ_zero{B:Nat}(hB:0<B):ceQ 0 B=0:=by
 have h:0=nv 0*B:=by have:=nv_zero;rw[this,Nat.zero_mul]
 exact ceQ_exact hB h
theorem flQ_zero{B:Nat}:flQ 0 B=0:=by have h:=fl_zero;unfold flQ;rw[Nat.zero_div];exact h
theorem le_flI{k A:Int}{B:Nat}(hB:0<B):k<=flI A B↔nvZ k*(B:Int)<=A:=by
 have hBi:(0:Int)<B:=by omega
 unfold flI;by_cases hA:0<=A
 ·rw[if_pos hA];obtain⟨a,rfl⟩:=Int.eq_ofNat_of_zero_le hA;rw[tN];by_cases hk:0<=k
  ·obtain⟨r,rfl⟩:=Int.eq_ofNat_of_zero_le hk;have:= @le_flQ r a B hB;rw[nvZ_natCast,<-Int.natCast_mul];omega
  ·have h1:nvZ k<nvZ 0:=nvZ_lt (by omega);rw[nvZ_zero]at h1;have h2:=Int.mul_neg_of_neg_of_pos h1 hBi;omega
 ·rw[if_neg hA];obtain⟨a,ha⟩:=Int.eq_ofNat_of_zero_le (show 0<= -A by omega);rw[ha,tN];by_cases hk:0<=k
  ·have h1:=nvZ_nonneg hk;have h2:=Int.mul_nonneg h1 (Int.le_of_lt hBi);have h3:¬(ceQ a B<=0):=by rw[ceQ_le hB,nv_zero];omega
   omega
  ·obtain⟨r,hr⟩:=Int.eq_ofNat_of_zero_le (show 0<= -k by omega);have:= @ceQ_le r a B hB;have e:nvZ k= -(nv r:Int):=by rw[<-Int.neg_neg k,nvZ_neg,hr,nvZ_natCast]
   rw[e,Int.neg_mul,<-Int.natCast_mul];omega
theorem ceI_le{k A:Int}{B:Nat}(hB:0<B):ceI A B<=k↔A<=nvZ k*(B:Int):=by unfold ceI;have h:= @le_flI (-k) (-A) B hB;rw[nvZ_neg,Int.neg_mul]at h;omega
def outUp(k:Int):F×Int:=if (T:Int)<=k then(F.zero,10)else(F.of (max k (1-T)),0)
def outDn(k:Int):F×Int:=if k<= -(T:Int)then(F.zero,10)else(F.of (min k (T-1)),0)
def rndR(up:Bool)(A:Int)(B:Nat):F×Int:=if up then outUp (ceI A B)else outDn (flI A B)
theorem neg_of{k:Int}(h:-(T:Int)<k/\k<T):(F.of k).neg=F.of (-k):=by apply F.ext';show -(F.of k).k=_;rw[F.of_k h,F.of_k (by omega)]
theorem rndR_mag(minus up:Bool)(A B:Nat) :
  rndR up (if minus then -(A:Int)else A) B=if (up != minus)then(if T<=ceQ A B then(F.zero,10)else(F.turn minus (F.of (ceQ A B:Nat)),0))
   else(F.turn minus (F.of (min (flQ A B) (T-1):Nat)),0):=by
 have hT:=T_num;have ez:∀b:Bool,F.turn b (F.of ((0:Nat):Int))=F.of ((0:Nat):Int):=by decide+kernel
 cases minus<;>cases up
 ·-- down,of what is not below 0
  simp only[rndR,outDn,Bool.false_eq_true,if_false,bne_self_eq_false];have e:flI (A:Int) B=(flQ A B:Int):=by unfold flI;rw[if_pos (by omega),tN]
  rw[e,if_neg (by omega),turn_false];rw[show min (flQ A B:Int) ((T:Int)-1)=((min (flQ A B) (T-1):Nat):Int)from by omega]
 ·simp only[rndR,outUp,if_true,Bool.false_eq_true,if_false,show(true != false)=true from rfl];have e:ceI (A:Int) B=(ceQ A B:Int):=by
   unfold ceI flI;by_cases hA:A=0
   ·subst hA;rw[if_pos (by omega),show(-((0:Nat):Int)).toNat=0 from rfl,flQ_zero];by_cases hB:0<B
    ·rw[ceQ_zero hB];rfl
    ·have:B=0:=by omega
     subst this;decide
   ·rw[if_neg (by omega),Int.neg_neg,Int.neg_neg,tN]
  rw[e];by_cases h:T<=ceQ A B
  ·rw[if_pos (by omega),if_pos h]
  ·rw[if_neg (by omega),if_neg h,turn_false];rw[show max (ceQ A B:Int) (1-(T:Int))=(ceQ A B:Int)from by omega]
 ·simp only[rndR,outDn,if_true,Bool.false_eq_true,if_false,show(false != true)=true from rfl];have e:flI (-(A:Int)) B= -(ceQ A B:Int):=by
   unfold flI;by_cases hA:A=0
   ·subst hA;rw[if_pos (by omega),show(-((0:Nat):Int)).toNat=0 from rfl,flQ_zero];by_cases hB:0<B
    ·rw[ceQ_zero hB];rfl
    ·have:B=0:=by omega
     subst this;decide
   ·rw[if_neg (by omega),Int.neg_neg,tN]
  rw[e];by_cases h:T<=ceQ A B
  ·rw[if_pos (by omega),if_pos h]
  ·rw[if_neg (by omega),if_neg h,turn_true,neg_of (by omega)];rw[show min (-(ceQ A B:Int)) ((T:Int)-1)= -(ceQ A B:Int)from by omega]
 ·simp only[rndR,outUp,if_true,bne_self_eq_false,Bool.false_eq_true,if_false];have e:ceI (-(A:Int)) B= -(flQ A B:Int):=by unfold ceI flI;rw[Int.neg_neg,if_pos (by omega),tN]
  rw[e,if_neg (by omega),turn_true,neg_of (by omega)];rw[show max (-(flQ A B:Int)) (1-(T:Int))= -((min (flQ A B) (T-1):Nat):Int)from by omega]
theorem rndG_eq_rndR{minus more up:Bool}{n A B:Nat}{e:Int}(hB:0<B)
  (h1:n*2^(e+1074).toNat*B<=A*2^(-(e+1074)).toNat) (h2:A*2^(-(e+1074)).toNat<(n+1)*2^(e+1074).toNat*B)
  (h3:more=true↔A*2^(-(e+1074)).toNat≠n*2^(e+1074).toNat*B) (h4:more=true->53<=blen n) :
  rndG minus n more e up=rndR up (if minus then -(A:Int)else A) B:=by
 have hT:=T_num;have hP:P=4503599627370496:=rfl;rw[rndR_mag];unfold rndG;obtain⟨X,hX⟩:∃X,cutN n e=X:=⟨_,rfl⟩;obtain⟨p,hp⟩:∃p,(e+1074).toNat=p:=⟨_,rfl⟩;obtain⟨q,hq⟩:∃q,(-(e+1074)).toNat=q:=⟨_,rfl⟩;rw[hX];rw[hp,hq]at h1 h2 h3
 -- s: the place behind the cut
 have hXq:q<=X:=by unfold cutN at hX;omega
 obtain⟨s,hs⟩:∃s:Nat,e+X=(s:Int)-1074:=⟨(e+X+1074).toNat,by unfold cutN at hX;omega⟩;have hsX:s+q=p+X:=by omega
 have hcl:=cut_lt n e;rw[hX]at hcl
 -- what is kept,the rest
 have hd:=Nat.div_add_mod n (2^X);have hr:=Nat.mod_lt n (Nat.two_pow_pos X);have hXpos:=Nat.two_pow_pos X;generalize hm0:n/2^X=m0 at*;generalize hrest:n%2^X=rest at*;have hq0:=Nat.two_pow_pos q;have hp0:=Nat.two_pow_pos p;have hs0:=Nat.two_pow_pos s;have hsq:2^s*2^q=2^p*2^X:=by rw[<-Nat.pow_add,<-Nat.pow_add,hsX]
 -- m0 2^s B ≤ A < (m0 + 1) 2^s B
 have b1:m0*2^s*B<=A:=by refine Nat.le_of_mul_le_mul_right ?_ hq0;refine Nat.le_trans ?_ h1;rw[show m0*2^s*B*2^q=(2^X*m0)*2^p*B from by rw[show m0*2^s*B*2^q=m0*(2^s*2^q)*B from by grind,hsq];grind];exact Nat.mul_le_mul_right _ (Nat.mul_le_mul_right _ (by omega))
 have b2:A<(m0+1)*2^s*B:=by refine Nat.lt_of_mul_lt_mul_right (a:=2^q) ?_;refine Nat.lt_of_lt_of_le h2 ?_;rw[show(m0+1)*2^s*B*2^q=(2^X*m0+2^X)*2^p*B from by rw[show(m0+1)*2^s*B*2^q=(m0+1)*(2^s*2^q)*B from by grind,hsq];grind];exact Nat.mul_le_mul_right _ (Nat.mul_le_mul_right _ (by omega))
 -- nothing is lost just if A is that
 have b3:(rest≠0\/more=true)↔A≠m0*2^s*B:=by
  rw[h3];have k1:A=m0*2^s*B↔A*2^q=(2^X*m0)*2^p*B:=by rw[<-Nat.mul_left_inj (Nat.ne_of_gt hq0) (b:=A)];rw[show m0*2^s*B*2^q=m0*(2^s*2^q)*B from by grind,hsq,show m0*(2^p*2^X)*B=2^X*m0*2^p*B from by grind]
  constructor
  ·rintro(h|h) c
   ·rw[k1]at c;rw[c,show n=2^X*m0+rest from hd.symm]at h1;have:(2^X*m0+rest)*2^p<=2^X*m0*2^p:=Nat.le_of_mul_le_mul_right h1 hB;have:=Nat.le_of_mul_le_mul_right this hp0;omega
   ·rw[k1]at c;by_cases hz:rest=0
    ·apply h;rw[c,<-hd,hz,Nat.add_zero]
    ·rw[c,show n=2^X*m0+rest from hd.symm]at h1;have:(2^X*m0+rest)*2^p<=2^X*m0*2^p:=Nat.le_of_mul_le_mul_right h1 hB;have:=Nat.le_of_mul_le_mul_right this hp0;omega
  ·intro h;by_cases hz:rest=0
   ·right;intro c;apply h;rw[k1,c,<-hd,hz,Nat.add_zero]
   ·exact Or.inl hz
 -- where what is kept is short,nothing is lost
 have b4:(s=0\/P<=m0)\/A=m0*2^s*B:=by
  by_cases c:53<=blen n
  ·left;by_cases c2:s=0
   ·exact Or.inl c2
   ·right;have hXe:X=blen n-53:=by unfold cutN at hX;omega
    have hn0:n≠0:=by intro c3;subst c3;simp[blen]at c
    have e1:blen n=n.log2+1:=by unfold blen;rw[if_neg hn0]
    rw[<-hm0,Nat.le_div_iff_mul_le hXpos,hP,show 4503599627370496=2^52 from rfl,<-Nat.pow_add];exact Nat.le_trans (Nat.pow_le_pow_right (by omega) (by omega)) (Nat.log2_self_le hn0)
  ·by_cases c2:s=0
   ·exact Or.inl (Or.inl c2)
   ·right;have hXe:X=0:=by unfold cutN at hX;omega
    by_cases hA:A=m0*2^s*B
    ·exact hA
    ·exfalso
     rcases b3.2 hA with h|h
     ·rw[hXe,Nat.pow_zero]at hr;omega
     ·exact c (h4 h)
 have hlost:decide (rest≠0)= !decide (rest=0):=by simp
 have hmB:∀m:Nat,m<=2*P->m*2^s*B=nv (fl (m*2^s))*B:=fun m hm=>by rw[nv_fl_exact hm]
 have hdy:∀m:Nat,F.dy m (e+X)=F.of (fl (m*2^s):Nat):=by intro m;unfold F.dy;rw[hs,show((s:Int)-1074+1074).toNat=s from by omega]
 -- too great?
 have hbig:∀m:Nat,m≠0->m<=2*P->(1024<(blen m:Int)+(e+X)↔T<=fl (m*2^s)):=by
  intro m h0 hm;rw[le_fl,nv_T,hs];have l1:=lt_blen m;have e1:blen m=m.log2+1:=by unfold blen;rw[if_neg h0]
  have l2:=Nat.log2_self_le h0;obtain⟨t,ht⟩:∃t:Nat,t=2046:=⟨_,rfl⟩;rw[<-ht,show P*2^t=2^(52+t)from by rw[Nat.pow_add];rfl];constructor
  ·intro h;refine Nat.le_trans ?_ (Nat.mul_le_mul_right _ l2);rw[<-Nat.pow_add];exact Nat.pow_le_pow_right (by omega) (by omega)
  ·intro h;have h5:2^(52+t)<2^(blen m+s):=by rw[Nat.pow_add 2 (blen m)];exact Nat.lt_of_le_of_lt h (Nat.mul_lt_mul_of_pos_right l1 hs0)
   have:=(Nat.pow_lt_pow_iff_right (by omega:1<2)).1 h5;omega
 have hm0P:m0<2*P:=by omega
 -- the exact case,and the others
 by_cases hex:A=m0*2^s*B
 ·have hno:rest=0/\more=false:=by
   have:=mt b3.1 (by rw[ne_eq,Classical.not_not];exact hex);constructor
   ·by_cases c:rest=0
    ·exact c
    ·exact absurd (Or.inl c) this
   ·cases more
    ·rfl
    ·exact absurd (Or.inr rfl) this
  have hmU:mUp minus more up (decide (rest≠0)) m0=m0:=by unfold mUp;rw[hno.1,hno.2];simp
  rw[hmU];have hce:ceQ A B=fl (m0*2^s):=ceQ_exact hB (by rw[hex,hmB m0 (by omega)]);have hfl:flQ A B=fl (m0*2^s):=by unfold flQ;rw[hex,Nat.mul_div_cancel _ hB]
  rw[hce,hfl];unfold rndOut;by_cases hz:m0=0
  ·subst hz;rw[if_pos rfl,Nat.zero_mul,fl_zero];have ez:∀b:Bool,F.turn b (F.of ((0:Nat):Int))=F.zero:=by decide+kernel
   rw[if_neg (show ¬T<=0 by omega),Nat.min_eq_left (by omega),ez];split<;>rfl
  ·rw[if_neg hz];have hb:=hbig m0 hz (by omega);by_cases g:1024<(blen m0:Int)+(e+X)
   ·have g2:=hb.1 g;rw[if_pos g,if_pos g2,Nat.min_eq_right (by omega)];rw[show F.of ((T-1:Nat):Int)=F.max from by decide+kernel]
   ·have g2:¬T<=fl (m0*2^s):=fun c=>g (hb.2 c);rw[if_neg g,if_neg g2,Nat.min_eq_left (by omega),hdy];split<;>rfl
 ·have hyes:=b3.2 hex
  have hnorm : s = 0 ∨ P ≤ m0 := by rcases b4 with h | h
                                    ·exact h
                                    ·exact absurd h hex
  have n1:=nv_mk s m0 (by omega) hnorm;have n2:=nv_mk s (m0+1) (by omega) (by omega);have f1:fl (m0*2^s)=s*P+m0:=by rw[<-n1,fl_nv]
  have f2:fl ((m0+1)*2^s)=s*P+(m0+1):=by rw[<-n2,fl_nv]
  have hfl:flQ A B=s*P+m0:=flQ_eq hB (by rw[n1];exact b1) (by rw[Nat.add_assoc,n2];exact b2);have hce:ceQ A B=s*P+m0+1:=ceQ_eq hB (by rw[n1];omega) (by rw[Nat.add_assoc,n2];omega);have hyesb:(decide (rest≠0)||more)=true:=by
   rcases hyes with h|h
   ·simp[h]
   ·simp[h]
  by_cases aw:(up != minus)=true
  ·have hmU:mUp minus more up (decide (rest≠0)) m0=m0+1:=by unfold mUp;rw[aw,hyesb];rfl
   rw[hmU,aw,if_pos rfl,hce];unfold rndOut;rw[if_neg (by omega)];have hb:=hbig (m0+1) (by omega) (by omega);rw[f2]at hb;by_cases g:1024<(blen (m0+1):Int)+(e+X)
   ·have g2:=hb.1 g;rw[if_pos g,if_pos rfl,if_pos (by omega)]
   ·have g2:¬T<=s*P+(m0+1):=fun c=>g (hb.2 c);rw[if_neg g,if_neg (by omega),hdy,f2,Nat.add_assoc]
  ·have aw2:(up != minus)=false:=by simpa using aw
   have hmU:mUp minus more up (decide (rest≠0)) m0=m0:=by unfold mUp;rw[aw2];rfl
   rw[hmU,aw2,hfl];unfold rndOut;by_cases hz:m0=0
   ·subst hz;have hs1:s=0:=by omega
    subst hs1;rw[if_pos rfl];have ez:∀b:Bool,F.turn b (F.of ((0:Nat):Int))=F.zero:=by decide+kernel
    rw[Nat.zero_mul,Nat.zero_add,Nat.min_eq_left (by omega),ez];simp
   ·rw[if_neg hz];have hb:=hbig m0 hz (by omega);rw[f1]at hb;by_cases g:1024<(blen m0:Int)+(e+X)
    ·have g2:=hb.1 g;rw[if_pos g,Nat.min_eq_right (by omega)];rw[show F.of ((T-1:Nat):Int)=F.max from by decide+kernel];simp
    ·have g2:¬T<=s*P+m0:=fun c=>g (hb.2 c);rw[if_neg g,Nat.min_eq_left (by omega),hdy,f1];simp
theorem flI_nvZ(k:Int):flI (nvZ k) 1=k:=by
 have h1:=(le_flI (k:=k) (A:=nvZ k) (B:=1) (by omega)).2 (by omega);have h2:=(le_flI (k:=flI (nvZ k) 1) (A:=nvZ k) (B:=1) (by omega)).1 (Int.le_refl _);have h3:nvZ (flI (nvZ k) 1)<=nvZ k:=by omega
 have:=nvZ_le_iff.1 h3;omega
theorem ceI_nvZ(k:Int):ceI (nvZ k) 1=k:=by unfold ceI;rw[<-nvZ_neg,flI_nvZ];omega
theorem rndR_nvZ(up:Bool)(k:Int):rndR up (nvZ k) 1=if up then outUp k else outDn k:=by unfold rndR;rw[flI_nvZ,ceI_nvZ]
def nextF(x:F)(up:Bool):F×Int:=if up then outUp (x.k+1)else outDn (x.k-1)
theorem rndG_nv{minus up:Bool}{n r:Nat}{e:Int}(he:-1074<=e)(h:n*2^(e+1074).toNat=nv r) :
  rndG minus n false e up=if up then outUp (if minus then -(r:Int)else r)else outDn (if minus then -(r:Int)else r):=by
 have h0:(-(e+1074)).toNat=0:=by omega
 rw[rndG_eq_rndR (A:=nv r) (B:=1) (by omega) (by rw[h,h0];simp) (by rw[h0,Nat.add_mul,h];have:=Nat.two_pow_pos (e+1074).toNat;omega) (by rw[h,h0];simp) (by simp)];have e:(if minus then -(nv r:Int)else(nv r:Int))=nvZ (if minus then -(r:Int)else r):=by
  cases minus
  ·simp only[Bool.false_eq_true,if_false];rw[nvZ_natCast]
  ·simp only[if_true];rw[nvZ_neg,nvZ_natCast]
 rw[e,rndR_nvZ]
theorem nv_up(r:Nat):(man r+1)*2^pl r=nv (r+1):=by
 obtain⟨s,m,rfl,h1,h2⟩:=rung_mk r;have hn:=nv_mk s m (by omega) h2;rw[Nat.add_assoc,nv_mk s (m+1) (by omega) (by omega)]
 -- man,pl of s P + m
 have hP:=P_pos;have e1:man (s*P+m)=m/\pl (s*P+m)=s:=by
  by_cases h3:m<P
  ·have hs:s=0:=by omega
   subst hs;unfold man pl;simp[h3,Nat.div_eq_of_lt h3]
  ·have e0:s*P+m=(s+1)*P+(m-P):=by rw[Nat.add_mul];omega
   have hlt:m-P<P:=by omega
   have e2:¬((s+1)*P+(m-P)<P):=by have:1*P<=(s+1)*P:=Nat.mul_le_mul_right _ (by omega);omega
   unfold man pl;rw[e0,if_neg e2,Nat.mul_comm (s+1) P,Nat.mul_add_mod,Nat.mod_eq_of_lt hlt,Nat.mul_add_div hP,Nat.div_eq_of_lt hlt];omega
 rw[e1.1,e1.2]
theorem man_pl(r:Nat):(pl r=0\/P<=man r)/\man r<2*P:=by
 have hP:=P_pos;have hm:=Nat.mod_lt r hP;unfold man pl;by_cases h:r<P
 ·rw[if_pos h,Nat.div_eq_of_lt h];omega
 ·rw[if_neg h];omega
theorem nv_dn(r:Nat)(h:1<=r)(h2:¬(man r=P/\1<=pl r)):(man r-1)*2^pl r=nv (r-1):=by
 obtain⟨t,rfl⟩:∃t,r=t+1:=⟨r-1,by omega⟩;have h3:=man_pl (t+1);have hm:man (t+1)≠0:=fun c=>by have:=man_zero _ c;omega
 obtain⟨m,hmm⟩:∃m,man (t+1)=m+1:=⟨man (t+1)-1,by omega⟩;have e1:=nv_mk (pl (t+1)) m (by omega) (by omega);have e2:nv (pl (t+1)*P+(m+1))=nv (t+1):=by rw[nv_mk (pl (t+1)) (m+1) (by omega) (by omega)];unfold nv;rw[hmm]
 have e3:=nv_inj e2;have e4:pl (t+1)*P+m=t:=by omega
 rw[hmm,Nat.add_sub_cancel,Nat.add_sub_cancel,<-e1,e4]
theorem nv_dn2(r:Nat)(h:man r=P)(h2:1<=pl r):9007199254740991*2^(pl r-1)=nv (r-1):=by
 have hP:P=4503599627370496:=rfl;obtain⟨s,hs⟩:∃s,pl r=s+1:=⟨pl r-1,by omega⟩;have e1:=nv_mk s 9007199254740991 (by omega) (by omega);have e2:nv ((s+1)*P+P)=nv r:=by rw[nv_mk (s+1) P (by omega) (by omega)];unfold nv;rw[h,hs]
 have e3:=nv_inj e2;have e4:s*P+9007199254740991=r-1:=by rw[<-e3,Nat.add_mul];omega
 rw[hs,Nat.add_sub_cancel,<-e1,e4]
end Bu
namespace Bu
open Ieee
def dAdd(up:Bool)(a b:F):F×Int:=rndR up (a.z+b.z) 1
def dSub(up:Bool)(a b:F):F×Int:=rndR up (a.z-b.z) 1
def dMul(up:Bool)(a b:F):F×Int:=rndR up (a.z*b.z) S
def dDiv(up:Bool)(a b:F):F×Int:=rndR up (if b.k<0 then -(a.z*S)else a.z*S) b.z.natAbs
def sg(x:F):Bool:=decide (x.k<0)
def mn(x:F):Nat:=man x.k.natAbs
def ex(x:F):Nat:=pl x.k.natAbs
theorem z_parts(x:F):x.z=if sg x=true then -((mn x*2^ex x:Nat):Int)else((mn x*2^ex x:Nat):Int):=by
 have h:=z_natAbs x;have h2:=z_sign x;unfold sg mn ex;by_cases c:x.k<0
 ·rw[if_pos (by simpa using c),<-h];have:=h2.2 c;omega
 ·rw[if_neg (by simpa using c),<-h];have:¬x.z<0:=fun e=>c (h2.1 e);omega
theorem mn_lt(x:F):mn x<9007199254740992:=by have:=(man_pl x.k.natAbs).2;have:P=4503599627370496:=rfl;unfold mn;omega
theorem mn_norm(x:F):ex x=0\/4503599627370496<=mn x:=(man_pl x.k.natAbs).1
theorem ex_le(x:F):ex x<=2045:=by
 have h:=x.hk;have hT:=T_num;have hP:P=4503599627370496:=rfl;unfold ex pl;have:x.k.natAbs/P<2047:=by rw[Nat.div_lt_iff_lt_mul P_pos,hP];omega
 omega
theorem pow_pos'(n:Nat):0<2^n:=Nat.two_pow_pos n
theorem rndG_exact{minus up:Bool}{n A B:Nat}{e:Int}(hB:0<B)(h:n*2^(e+1074).toNat*B=A*2^(-(e+1074)).toNat) :
  rndG minus n false e up=rndR up (if minus then -(A:Int)else A) B:=by
 refine rndG_eq_rndR hB (Nat.le_of_eq h) ?_ (by simp[h]) (by simp);rw[<-h,Nat.add_mul,Nat.add_mul];have:0<1*2^(e+1074).toNat*B:=Nat.mul_pos (by have:=pow_pos' (e+1074).toNat;omega) hB;omega
theorem rndG_mul(up:Bool)(a b:F):rndG (sg a != sg b) (mn a*mn b) false ((ex a:Int)-1074+((ex b:Int)-1074)) up=dMul up a b:=by
 unfold dMul;have hz:a.z*b.z=if (sg a != sg b)=true then -((mn a*2^ex a*(mn b*2^ex b):Nat):Int)else((mn a*2^ex a*(mn b*2^ex b):Nat):Int):=by rw[z_parts a,z_parts b];cases sg a<;>cases sg b<;>simp[Int.mul_neg,Int.neg_mul]
 rw[hz];refine rndG_exact S_pos ?_;obtain⟨s,hs,hS⟩:=S_pow;rw[hS];have e1:mn a*2^ex a*(mn b*2^ex b)=mn a*mn b*2^(ex a+ex b):=by rw[Nat.pow_add];ac_rfl
 rw[e1,Nat.mul_assoc,Nat.mul_assoc (mn a*mn b),<-Nat.pow_add,<-Nat.pow_add];congr 2;omega
structure Al (m n d:Nat):Prop where
 m53:m<9007199254740992
 n53:n<9007199254740992
 ord:d=0->n<=m
 nrm:d≠0->4503599627370496<=m
def smallN(n d:Nat):Nat:=n*18446744073709551616/2^d
def moreN(n d:Nat):Bool:=decide (n*18446744073709551616%2^d≠0)
def addN(same:Bool)(m n d:Nat):Nat:=
 if same then m*18446744073709551616+smallN n d else m*18446744073709551616-smallN n d-(if moreN n d then 1 else 0)
theorem blen_ge{n k:Nat}(h:2^k<=n):k+1<=blen n:=by
 unfold blen;have:n≠0:=by have:=pow_pos' k;omega
 rw[if_neg this];have:=(Nat.le_log2 this).2 h;omega
theorem rndG_add(minus same up:Bool){m n d pa pb:Nat}(h:Al m n d)(hd:pa=pb+d) :
  rndG minus (addN same m n d) (moreN n d) ((pa:Int)-1074-64) up=
   rndR up (if minus then -((if same then m*2^pa+n*2^pb else m*2^pa-n*2^pb:Nat):Int)else((if same then m*2^pa+n*2^pb else m*2^pa-n*2^pb:Nat):Int)) 1:=by
 obtain⟨Q,W⟩:∃Q,(18446744073709551616:Nat)=Q:=⟨_,rfl⟩;have hQ:Q=2^64:=by rw[<-W]
 have hQ0:0<Q:=by rw[hQ];exact pow_pos' 64
 obtain⟨h1,h2,h3,h4⟩:=h
 -- all by 2^d: with G = m 2^64 2^d,s 2^d + r = n 2^64
 obtain⟨s,hs⟩:∃s,smallN n d=s:=⟨_,rfl⟩;obtain⟨r,hr⟩:∃r,n*18446744073709551616%2^d=r:=⟨_,rfl⟩;have hdm:s*2^d+r=n*Q:=by have:=Nat.div_add_mod (n*18446744073709551616) (2^d);rw[hr]at this;unfold smallN at hs;rw[hs,Nat.mul_comm]at this;rw[<-W];exact this
 have hrl:r<2^d:=by rw[<-hr];exact Nat.mod_lt _ (pow_pos' d)
 have hmore:moreN n d=true↔r≠0:=by unfold moreN;rw[hr];simp
 -- n 2^64 ≤ m 2^64 2^d
 have hle:n<=m*2^d:=by
  by_cases c:d=0
  ·subst c;simpa using h3 rfl
  ·have:=h4 c;have h5:2<=2^d:=by
    have:=Nat.pow_le_pow_right (show 0<2 by omega) (show 1<=d by omega)
    simpa using this
   have:=Nat.mul_le_mul this h5;omega
 have hsle:s<=m*Q:=by
  have:s*2^d<=(m*Q)*2^d:=by rw[Nat.mul_assoc,Nat.mul_comm Q,<-Nat.mul_assoc];have:=Nat.mul_le_mul_right Q hle;omega
  exact Nat.le_of_mul_le_mul_right this (pow_pos' d)
 have hslt:r≠0->s+1<=m*Q:=by
  intro hr0;have:s*2^d<(m*Q)*2^d:=by rw[Nat.mul_assoc,Nat.mul_comm Q,<-Nat.mul_assoc];have:=Nat.mul_le_mul_right Q hle;omega
  exact Nat.lt_of_mul_lt_mul_right this
 -- the value,by 2^64
 obtain⟨V,hV⟩:∃V,(if same then m*2^pa+n*2^pb else m*2^pa-n*2^pb:Nat)=V:=⟨_,rfl⟩;obtain⟨N,hN⟩:∃N,addN same m n d=N:=⟨_,rfl⟩;rw[hV,hN]
 -- N 2^pa <= V 2^64 < (N + 1) 2^pa
 have key:∃t,V*Q=N*2^pa+t*2^pb/\t<2^d/\(moreN n d=true↔t≠0):=by
  subst hd;rw[<-hV,<-hN];unfold addN;rw[hs];have e1:∀x:Nat,x*2^(pb+d)=x*2^d*2^pb:=fun x=>by rw[Nat.pow_add];ac_rfl
  cases same with
  | true =>
    refine⟨r,?_,hrl,hmore⟩;simp only[if_true,W];rw[e1,e1,<-Nat.add_mul,<-Nat.add_mul,Nat.mul_right_comm];refine congrArg (fun z=>z*2^pb) ?_;rw[Nat.add_mul,Nat.add_mul,<-hdm];have:m*2^d*Q=m*Q*2^d:=by ac_rfl
    omega
  | false =>
    simp only[Bool.false_eq_true,if_false,W];have hsub:m*2^(pb+d)-n*2^pb=(m*2^d-n)*2^pb:=by rw[e1,Nat.sub_mul]
    have h6:(m*2^d-n)*Q=(m*Q-s)*2^d-r:=by
     rw[Nat.sub_mul,Nat.sub_mul,<-hdm];have:m*2^d*Q=m*Q*2^d:=by ac_rfl
     omega
    rw[hsub];by_cases hr0:r=0
    ·have hm0:moreN n d=false:=by rw[<-Bool.not_eq_true,hmore];simpa using hr0
     rw[hm0];refine⟨0,?_,pow_pos' d,by simp⟩;simp only[Bool.false_eq_true,if_false,Nat.sub_zero,Nat.zero_mul,Nat.add_zero];rw[e1,Nat.mul_right_comm,h6,hr0,Nat.sub_zero]
    ·have hm1:moreN n d=true:=hmore.2 hr0;rw[hm1];refine⟨2^d-r,?_,by omega,by simp;omega⟩;simp only[if_true];rw[e1,Nat.mul_right_comm,h6,<-Nat.add_mul];refine congrArg (fun z=>z*2^pb) ?_;have h7:=hslt hr0;obtain⟨q,hq⟩:∃q,m*Q-s=q+1:=⟨m*Q-s-1,by omega⟩;rw[hq,Nat.add_sub_cancel,Nat.add_mul];omega
 obtain⟨t,k1,k2,k3⟩:=key;have kt:t*2^pb<2^pa:=by rw[hd,Nat.pow_add,Nat.mul_comm (2^pb)];exact Nat.mul_lt_mul_of_pos_right k2 (pow_pos' pb)
 have kt0:t≠0->0<t*2^pb:=fun h=>Nat.mul_pos (by omega) (pow_pos' pb)
 -- scale
 have hE:∃p q:Nat,((pa:Int)-1074-64+1074).toNat=p/\(-((pa:Int)-1074-64+1074)).toNat=q/\p+64=pa+q:=⟨_,_,rfl,rfl,by omega⟩;obtain⟨p,q,hp,hq,hpq⟩:=hE;have hscale:∀x y:Nat,x*2^p<=y*2^q↔x*2^pa<=y*Q:=by
  intro x y;have e:x*2^p*Q=x*2^pa*2^q:=by rw[hQ,Nat.mul_assoc,<-Nat.pow_add,hpq,Nat.pow_add,<-Nat.mul_assoc]
  have e2:y*2^q*Q=y*Q*2^q:=by ac_rfl
  constructor
  ·intro h;have:=Nat.mul_le_mul_right Q h;rw[e,e2]at this;exact Nat.le_of_mul_le_mul_right this (pow_pos' q)
  ·intro h;have:=Nat.mul_le_mul_right (2^q) h;rw[<-e,<-e2]at this;exact Nat.le_of_mul_le_mul_right this hQ0
 refine rndG_eq_rndR (by decide) ?_ ?_ ?_ ?_
 ·rw[hp,hq,Nat.mul_one];exact(hscale N V).2 (by omega)
 ·rw[hp,hq,Nat.mul_one];have h5:¬((N+1)*2^p<=V*2^q):=by rw[hscale,Nat.add_mul];omega
  omega
 ·rw[hp,hq,Nat.mul_one,k3];have h5:=hscale N V;have h6:V*2^q<=N*2^p↔V*Q<=N*2^pa:=by
   have e:N*2^p*Q=N*2^pa*2^q:=by rw[hQ,Nat.mul_assoc,<-Nat.pow_add,hpq,Nat.pow_add,<-Nat.mul_assoc]
   have e2:V*2^q*Q=V*Q*2^q:=by ac_rfl
   constructor
   ·intro h;have:=Nat.mul_le_mul_right Q h;rw[e,e2]at this;exact Nat.le_of_mul_le_mul_right this (pow_pos' q)
   ·intro h;have:=Nat.mul_le_mul_right (2^q) h;rw[<-e,<-e2]at this;exact Nat.le_of_mul_le_mul_right this hQ0
  constructor
  ·intro h0 he;have:=kt0 h0;have:=h6.1 (Nat.le_of_eq he);omega
  ·intro h0 he;subst he;rw[Nat.zero_mul,Nat.add_zero]at k1;exact h0 (Nat.le_antisymm (h6.2 (Nat.le_of_eq k1)) (h5.2 (Nat.le_of_eq k1.symm)))
 ·intro hm1;have hr0:=hmore.1 hm1
  -- d > 64
  have hd64:64<d:=by
   rcases Nat.lt_or_ge 64 d with h|h
   ·exact h
   ·exfalso
    apply hr0;rw[<-hr,W,hQ];exact Nat.mod_eq_zero_of_dvd (Nat.dvd_trans (Nat.pow_dvd_pow 2 h) (Nat.dvd_mul_left _ _))
  have hm52:=h4 (by omega);have p53:(2:Nat)^53=9007199254740992:=by decide
  have p52:(2:Nat)^52=4503599627370496:=by decide
  have hs52:s<2^53:=by
   have:s*2^d<2^53*2^d:=by
    have a1:n*Q<2^53*Q:=Nat.mul_lt_mul_of_pos_right (by omega) hQ0;have a2:(2:Nat)^53*Q<=2^53*2^d:=by rw[hQ];exact Nat.mul_le_mul_left _ (Nat.pow_le_pow_right (by omega) (by omega))
    omega
   exact Nat.lt_of_mul_lt_mul_right this
  have:2^115<=N:=by
   rw[<-hN];unfold addN;rw[hs,W];have a1:(2:Nat)^52*Q<=m*Q:=Nat.mul_le_mul_right _ (by omega);have a2:(2:Nat)^52*Q=2*2^115:=by rw[hQ]
   have a3:(2:Nat)^53+1<=2^115:=by decide
   cases same
   ·simp only[Bool.false_eq_true,if_false];split<;>omega
   ·simp only[if_true];omega
  have:=blen_ge this;omega
def Fst(a b:F):Prop:=ex b<ex a\/(ex a=ex b/\mn b<=mn a)
theorem al_of{a b:F}(h:Fst a b):Al (mn a) (mn b) (ex a-ex b):=by unfold Fst at h;refine⟨mn_lt a,mn_lt b,fun hd=>by omega,fun hd=> ?_⟩;have:=mn_norm a;omega
theorem rndG_dAdd{a b:F}(up:Bool)(h:Fst a b) :
  rndG (sg a) (addN (sg a==sg b) (mn a) (mn b) (ex a-ex b)) (moreN (mn b) (ex a-ex b)) ((ex a:Int)-1074-64) up=dAdd up a b:=by
 have hle:ex b<=ex a:=by unfold Fst at h;omega
 rw[rndG_add (sg a) (sg a==sg b) up (al_of h) (show ex a=ex b+(ex a-ex b) by omega)];unfold dAdd;congr 1;have hz:mn b*2^ex b<=mn a*2^ex a:=by
  rcases h with h|⟨h,h2⟩
  ·have h3:=mn_norm a;have h4:=mn_lt b;have h5:2^(ex b+1)<=2^ex a:=Nat.pow_le_pow_right (by omega) (by omega);rw[Nat.pow_succ]at h5;have h6:mn a*(2^ex b*2)<=mn a*2^ex a:=Nat.mul_le_mul_left _ h5;have h7:mn b*2^ex b<=mn a*2*2^ex b:=Nat.mul_le_mul_right _ (by omega);have h8:mn a*2*2^ex b=mn a*(2^ex b*2):=by ac_rfl
   omega
  ·rw[h];exact Nat.mul_le_mul_right _ h2
 rw[z_parts a,z_parts b];cases sg a<;>cases sg b<;>simp only[Bool.false_eq_true,if_false,if_true,beq_self_eq_true,show(true==false)=false from rfl,show(false==true)=false from rfl]<;>omega
theorem dAdd_comm(up:Bool)(a b:F):dAdd up a b=dAdd up b a:=by unfold dAdd;rw[Int.add_comm]
theorem dSub_zero(up:Bool)(a b:F)(h:b.k=0):dSub up a b=dAdd up a b:=by have:b.z=0:=(z_zero b).2 h;unfold dSub dAdd;rw[this,Int.sub_zero,Int.add_zero]
theorem dSub_neg(up:Bool)(a b:F):dSub up a b=dAdd up a b.neg:=by unfold dSub dAdd;rw[F.neg_z,Int.sub_eq_add_neg]
theorem small_le{m n d:Nat}(h:Al m n d):smallN n d+(if moreN n d then 1 else 0)<=m*18446744073709551616:=by
 have h1:=h.m53;have h2:=h.n53;by_cases c:d=0
 ·subst c;have h3:=h.ord rfl;have e1:smallN n 0=n*18446744073709551616:=by unfold smallN;rw[Nat.pow_zero,Nat.div_one]
  have e2:moreN n 0=false:=by unfold moreN;rw[Nat.pow_zero,Nat.mod_one];rfl
  rw[e1,e2];simp only[Bool.false_eq_true,if_false,Nat.add_zero];exact Nat.mul_le_mul_right _ h3
 ·have h4:=h.nrm c;have h6:2<=2^d:=by
   have:=Nat.pow_le_pow_right (show 0<2 by omega) (show 1<=d by omega)
   simpa using this
  have h7:smallN n d*2<=n*18446744073709551616:=by have:smallN n d*2^d<=n*18446744073709551616:=Nat.div_mul_le_self _ _;exact Nat.le_trans (Nat.mul_le_mul_left _ h6) this
  have h8:n*18446744073709551616<=(2*m-1)*18446744073709551616:=Nat.mul_le_mul_right _ (by omega);have hQ0:0<18446744073709551616:=by decide
  have h9:(2*m-1)*18446744073709551616+18446744073709551616=m*18446744073709551616*2:=by
   have:(2*m-1)+1=m*2:=by omega
   rw[<-Nat.succ_mul,Nat.succ_eq_add_one,this];ac_rfl
  generalize 18446744073709551616=Q at*;have:(if moreN n d then 1 else 0)<=1:=by split<;>omega
  omega
theorem wn_add(same:Bool){m n d:Nat}(h:Al m n d):addN same m n d<W128/\m*18446744073709551616+smallN n d<W128:=by
 have h5:=small_le h;have h1:m*18446744073709551616+m*18446744073709551616<W128:=by
  have:=h.m53;have hW:W128=18446744073709551616*18446744073709551616:=by decide
  rw[hW,<-Nat.add_mul];exact Nat.mul_lt_mul_of_pos_right (by omega) (by decide)
 generalize W128=W at*;unfold addN;generalize m*18446744073709551616=A at*;generalize smallN n d=s at*;have h6:s<=A:=by split at h5<;>omega
 refine⟨?_,by omega⟩;split
 ·omega
 ·split<;>omega
end Bu
namespace Go.Proofs.YtejcekikbnlllaaGreat
open Go.RowKit Bu
theorem ret_bool{a b:Bool}(h:a=b):Ending.returned (.bool a)= .returned (.bool b):=by rw[h]
theorem ret_int{k:IntKind}{a b:Int}(h:a=b):Ending.returned (.int k a)= .returned (.int k b):=by rw[h]
theorem ret_float{a b:Nat}(h:a=b):Ending.returned (.float .f64 a)= .returned (.float .f64 b):=by rw[h]
@[go_sem] theorem ford_lt(x y:F):(FloatKind.f64.format.order x.b y.b==some .lt)=decide (x.k<y.k):=order_lt x y
theorem b_zero:F.zero.b=0:=by decide
theorem ford0_eq(x:F):(FloatKind.f64.format.order x.b 0==some .eq)=decide (x.k=0):=by rw[<-b_zero];exact order_eq x F.zero
theorem run_fbits(x:Nat)(w:World):(callFunc 130 #[.float .f64 x]).run prog w= .ok (.value (.int .u64 x)) w:=by rw[run_callFunc_extern (e:=Extern.MathFloatBits.float64bits) Tryz.func130 (by kernel_rfl) (by kernel_rfl) (by kernel_rfl) (by kernel_rfl)];rfl
theorem run_ffrom(x:Int)(w:World):(callFunc 129 #[.int .u64 x]).run prog w= .ok (.value (.float .f64 x.toNat)) w:=by rw[run_callFunc_extern (e:=Extern.MathFloatBits.float64frombits) Tryz.func129 (by kernel_rfl) (by kernel_rfl) (by kernel_rfl) (by kernel_rfl)];rfl
set_option maxHeartbeats 400000 in
theorem isNaN_w(x:Nat)(w:World) :
  Calls prog 131 #[.float .f64 x] w fun e w'=>e= .returned (.bool (Ieee.double.order x x != some .eq))/\w=w':=by
 go_enter Tryz.func131,Tryz.ntmps131
 go_wp2
 go_ret
 exact⟨rfl,rfl⟩
theorem isNaN_F(x:F)(w:World) :
  Calls prog 131 #[.float .f64 x.b] w fun e w'=>e= .returned (.bool false)/\w=w':=
 (isNaN_w x.b w).mono fun e w' ⟨h1,h2⟩=>⟨by rw[h1];refine ret_bool ?_;have:=order_eq x x;simp only[decide_true,beq_iff_eq]at this;simp[this],h2⟩
set_option maxHeartbeats 400000 in
theorem signbit_w(x:Nat)(w:World)(hx:x<18446744073709551616) :
  Calls prog 133 #[.float .f64 x] w fun e w'=>e= .returned (.bool (decide (9223372036854775808<=x)))/\w=w':=by
 have hb:=run_fbits
 go_enter Tryz.func133,Tryz.ntmps133
 go_wp2
 go_ret
 refine⟨ret_bool ?_,rfl⟩;rw[Bool.eq_iff_iff];simp only[decide_eq_true_eq];unfold wrap64;omega
set_option maxHeartbeats 400000 in
theorem abs_w(x:Nat)(w:World)(hx:x<18446744073709551616) :
  Calls prog 59 #[.float .f64 x] w fun e w'=>e= .returned (.float .f64 (x%9223372036854775808))/\w=w':=by
 have hb:=run_fbits;have hf:=run_ffrom
 go_enter Tryz.func59,Tryz.ntmps59
 go_wp2
 go_ret
 refine⟨ret_float ?_,rfl⟩;rw[u64_andNot _ _ (by omega) (by omega) (by omega) (by omega)];simp only[tN];rw[show(18446744073709551615-(9223372036854775808:Int).toNat)=2^63-1 from by decide,Nat.and_two_pow_sub_one_eq_mod]
theorem abs_F(x:F)(w:World) :
  Calls prog 59 #[.float .f64 x.b] w fun e w'=>e= .returned (.float .f64 x.abs.b)/\w=w':=
 (abs_w x.b w (by have:=x.b_lt;omega)).mono fun e w' ⟨h1,h2⟩=>⟨by rw[h1];exact ret_float (F.abs_b x),h2⟩
set_option maxHeartbeats 400000 in
theorem isInf_w(x:Nat)(w:World)(hx:x<18446744073709551616) :
  Calls prog 132 #[.float .f64 x,.int .i64 0] w fun e w'=>e= .returned (.bool (Ieee.double.order (x%9223372036854775808) 9218868437227405311==some .gt))/\w=w':=by
 go_enter Tryz.func132,Tryz.ntmps132
 go_wp2_with (go_at_call 59;refine(abs_w _ _ (by omega)).mono ?_;rintro e w' ⟨rfl,rfl⟩)
 go_ret
 exact⟨ret_bool rfl,rfl⟩
theorem isInf_F(x:F)(w:World) :
  Calls prog 132 #[.float .f64 x.b,.int .i64 0] w fun e w'=>e= .returned (.bool false)/\w=w':=
 (isInf_w x.b w (by have:=x.b_lt;omega)).mono fun e w' ⟨h1,h2⟩=>⟨by rw[h1];refine ret_bool ?_;rw[F.abs_b,show(9218868437227405311:Nat)=F.max.b from by decide,order_gt];have:=x.abs.hk;have e:F.max.k=(T:Int)-1:=rfl;simp;omega,h2⟩
theorem signbit_F(x:F)(w:World) :
  Calls prog 133 #[.float .f64 x.b] w fun e w'=>e= .returned (.bool (decide (x.k<0)))/\w=w':=
 (signbit_w x.b w (by have:=x.b_lt;omega)).mono fun e w' ⟨h1,h2⟩=>⟨by rw[h1];refine ret_bool ?_;rw[Bool.eq_iff_iff];have:=x.hk;have e:=T_num;unfold F.b;simp only[decide_eq_true_eq];split<;>omega,h2⟩
set_option maxHeartbeats 400000 in
theorem right_F_w(x:F)(w:World) :
  Calls prog 60 #[.float .f64 x.b] w fun e w'=>e= .returned (.bool true)/\w=w':=by
 have ho:=ford0_eq x;by_cases h:x.k=0
 ·have h0:(FloatKind.f64.format.order x.b 0==some .eq)=true:=by rw[ho];simpa using h
  have hs:decide (x.k<0)=false:=by simp;omega
  clear ho h
  go_enter Tryz.func60,Tryz.ntmps60
  go_wp2_with (first|(go_at_call 131;refine(isNaN_F _ _).mono ?_;rintro e w' ⟨rfl,rfl⟩)|(go_at_call 132;refine(isInf_F _ _).mono ?_;rintro e w' ⟨rfl,rfl⟩)|(go_at_call 133;refine(signbit_F _ _).mono ?_;rintro e w' ⟨rfl,rfl⟩))
  go_ret
  exact⟨ret_bool (by simp[hs]),rfl⟩
 ·have h0:(FloatKind.f64.format.order x.b 0==some .eq)=false:=by rw[ho];simpa using h
  clear ho h
  go_enter Tryz.func60,Tryz.ntmps60
  go_wp2_with (first|(go_at_call 131;refine(isNaN_F _ _).mono ?_;rintro e w' ⟨rfl,rfl⟩)|(go_at_call 132;refine(isInf_F _ _).mono ?_;rintro e w' ⟨rfl,rfl⟩)|(go_at_call 133;refine(signbit_F _ _).mono ?_;rintro e w' ⟨rfl,rfl⟩))
  go_ret
  exact⟨ret_bool rfl,rfl⟩
theorem right_no_w(x:Nat)(hx:x<18446744073709551616)(h:rightB x=false)(w:World) :
  Calls prog 60 #[.float .f64 x] w fun e w'=>e= .returned (.bool false)/\w=w':=by
 obtain⟨neg,r,hr,hxr,hc⟩:=bad_parts hx h;have hr1:=read_parts x neg r hr hxr;have hm:x%9223372036854775808=r:=by cases neg<;>simp at hxr<;>omega
 rcases hc with⟨h1,h2⟩|h1|h1
 ·-- minus 0
  subst h1 h2;obtain rfl:x=9223372036854775808:=by simpa using hxr
  clear h hr hxr hr1 hm hx
  go_enter Tryz.func60,Tryz.ntmps60
  go_wp2_with (first|(go_at_call 131;refine(isNaN_w _ _).mono ?_;rintro e w' ⟨rfl,rfl⟩)|(go_at_call 132;refine(isInf_w _ _ (by omega)).mono ?_;rintro e w' ⟨rfl,rfl⟩)|(go_at_call 133;refine(signbit_w _ _ (by omega)).mono ?_;rintro e w' ⟨rfl,rfl⟩))
  go_ret
  exact⟨ret_bool rfl,rfl⟩
 ·-- infinite
  have hn:(Ieee.double.order x x != some .eq)=false:=by unfold Ieee.Format.order;rw[hr1,if_neg (by omega),if_pos h1];simp[Ieee.Datum.order]
  have hi:(Ieee.double.order (x%9223372036854775808) 9218868437227405311==some .gt)=true:=by rw[hm,h1];decide+kernel
  have hz:(FloatKind.f64.format.order x 0==some .eq)=false:=by show(Ieee.double.order x 0==some .eq)=false;unfold Ieee.Format.order;rw[hr1,if_neg (by omega),if_pos h1];cases neg<;>decide+kernel
  clear h hr hxr hr1 hm h1
  go_enter Tryz.func60,Tryz.ntmps60
  go_wp2_with (first|(go_at_call 131;refine(isNaN_w _ _).mono ?_;rintro e w' ⟨rfl,rfl⟩)|(go_at_call 132;refine(isInf_w _ _ hx).mono ?_;rintro e w' ⟨rfl,rfl⟩)|(go_at_call 133;refine(signbit_w _ _ hx).mono ?_;rintro e w' ⟨rfl,rfl⟩))
  go_ret
  exact⟨ret_bool rfl,rfl⟩
 ·-- no number
  have hn:(Ieee.double.order x x != some .eq)=true:=by unfold Ieee.Format.order;rw[hr1,if_neg (by omega),if_neg (by omega)];simp[Ieee.Datum.order]
  have hz:(FloatKind.f64.format.order x 0==some .eq)=false:=by show(Ieee.double.order x 0==some .eq)=false;unfold Ieee.Format.order;rw[hr1,if_neg (by omega),if_neg (by omega)];simp[Ieee.Datum.order]
  clear h hr hxr hr1 hm h1
  go_enter Tryz.func60,Tryz.ntmps60
  go_wp2_with (first|(go_at_call 131;refine(isNaN_w _ _).mono ?_;rintro e w' ⟨rfl,rfl⟩)|(go_at_call 132;refine(isInf_w _ _ hx).mono ?_;rintro e w' ⟨rfl,rfl⟩)|(go_at_call 133;refine(signbit_w _ _ hx).mono ?_;rintro e w' ⟨rfl,rfl⟩))
  go_ret
  exact⟨ret_bool rfl,rfl⟩
def wv(n:Nat):Value:= .agg #[.int .u64 ((n/18446744073709551616:Nat):Int),.int .u64 ((n%18446744073709551616:Nat):Int)]
theorem lib_len_le(x:Nat)(h:(x:Int)<=18446744073709551615):Lib.bitLen x<=64:=by
 have:=Any.bitLen_le64 (x:Int) (by omega) h
 simpa using this
set_option maxHeartbeats 400000 in
theorem size_w(a b:Nat)(w:World)(ha:(a:Int)<=18446744073709551615)(hb:(b:Int)<=18446744073709551615) :
  Calls prog 236 #[.agg #[.int .u64 a,.int .u64 b]] w fun e w'=>e= .returned (.int .i64 (if a>0 then 64+Lib.bitLen a else Lib.bitLen b))/\Below w.heap.size w w':=by
 by_cases h:a=0
 ·subst h
  go_enter Tryz.func236,Tryz.ntmps236
  go_wp2_with (go_at_call 147;refine(Tryz.bits_Len64 _ _ (by omega) (by omega)).mono ?_;rintro e w' ⟨rfl,rfl⟩)
  go_ret
  exact⟨ret_int rfl,(Below.refl _ _).alloc (Nat.le_refl _) _⟩
 ·have h':(0:Int)<a:=by omega
  have hl:(Lib.bitLen a:Int)<=64:=by have:=lib_len_le a ha;omega
  go_enter Tryz.func236,Tryz.ntmps236
  go_wp2_with (go_at_call 147;refine(Tryz.bits_Len64 _ _ (by omega) (by omega)).mono ?_;rintro e w' ⟨rfl,rfl⟩)
  go_ret
  exact⟨ret_int rfl,(Below.refl _ _).alloc (Nat.le_refl _) _⟩
@[go_sem] theorem eq_wide(a b c d:Int)(w:World):(Op.equalIn 10000 210 (.agg #[.int .u64 a,.int .u64 b]) (.agg #[.int .u64 c,.int .u64 d])).run prog w= .ok (a==c&&b==d) w:=by
 have u3:=Tryz.underlying25;have a3:=Tryz.isAgg25;have z3:=Tryz.sizeOf25;rw[show(10000:Nat)=9999+1 from rfl,Op.equalIn];simp only[Sem.run_bind,run_underlying Tryz.underlying210,Result.andThen_ok];simp only[Std.Legacy.Range.forIn_eq_forIn_range',Std.Legacy.Range.size,Nat.sub_zero,Nat.add_sub_cancel,Nat.div_one,List.range'_succ,List.range'_zero,List.forIn_cons,List.forIn_nil]
 go_simp
 by_cases h1:a=c<;>by_cases h2:b=d<;>simp[h1,h2]
set_option maxHeartbeats 400000 in
theorem is_w(a b:Int)(w:World) :
  Calls prog 239 #[.agg #[.int .u64 a,.int .u64 b]] w fun e w'=>e= .returned (.bool (!a==0|| !b==0))/\Below w.heap.size w w':=by
 go_enter Tryz.func239,Tryz.ntmps239
 go_wp2
 go_ret
 exact⟨ret_bool rfl,(Below.refl _ _).alloc (Nat.le_refl _) _⟩
set_option maxHeartbeats 400000 in
theorem up_w(a b:Int)(n:Nat)(w:World)(ha:0<=a)(hb:0<=b)(hb2:b<=18446744073709551615)(hn2:(n:Int)<=128) :
  Calls prog 240 #[.agg #[.int .u64 a,.int .u64 b],.int .i64 n] w fun e w'=>e= .returned (.agg #[.int .u64 (hi (wn a b*2^n%W128)),.int .u64 (lo (wn a b*2^n%W128))])/\Below w.heap.size w w':=by
 by_cases hn:64<=(n:Int)
 ·have H:=up_arith_hi a b n ha hb (by omega);generalize wn a b*2^n%W128=r at*;obtain⟨H1,H2⟩:=H;have K1:=Lib.hid H1;have K2:=Lib.hid H2;clear H1 H2
  go_enter Tryz.func240,Tryz.ntmps240
  go_wp2
  refine bodyPost_ret (v:= .agg #[.int .u64 (IntKind.u64.wrap (b*2^(n-64))),.int .u64 0]) (by simp[results,Tryz.results240,go_sem]) rfl ⟨?_,?_⟩
  ·rw[K1.out,<-K2.out]
  ·exact((Below.refl _ _).alloc (Nat.le_refl _) _).alloc (by simp) _
 ·have H:=up_arith_lo a b n ha hb hb2 (by omega);generalize wn a b*2^n%W128=r at*;obtain⟨H1,H2⟩:=H;have K1:=Lib.hid H1;have K2:=Lib.hid H2;clear H1 H2
  go_enter Tryz.func240,Tryz.ntmps240
  go_wp2
  go_region
  go_wp2
  refine bodyPost_ret (v:= .agg #[.int .u64 (bits BinOp.or IntKind.u64 (IntKind.u64.wrap (a*2^n)) (b/2^(64-n))),.int .u64 (IntKind.u64.wrap (b*2^n))]) (by simp[results,Tryz.results240,go_sem]) rfl ⟨?_,?_⟩
  ·rw[K1.out,<-K2.out]
  ·exact(((Below.refl _ _).alloc (Nat.le_refl _) _).alloc (by simp) _).drew
theorem bcell{W w1:World}(hb:Below W.heap.size W w1):(∀b o,b<W.heap.size->w1.cell? ⟨b,o,none⟩=W.cell? ⟨b,o,none⟩)/\(∀b o,b<W.heap.size->w1.frozen? ⟨b,o,none⟩=W.frozen? ⟨b,o,none⟩):=
 ⟨fun b o h=>hb.cell (p:=⟨b,o,none⟩) h,fun b o h=>hb.frozen (p:=⟨b,o,none⟩) h⟩
set_option maxHeartbeats 400000 in
theorem down_lo(a b:Int)(n:Nat)(w:World)(ha:0<=a)(ha2:a<=18446744073709551615)(hb:0<=b)(hb2:b<=18446744073709551615)(hn:(n:Int)<64) :
  Calls prog 164 #[.agg #[.int .u64 a,.int .u64 b],.int .i64 n] w fun e w'=>e= .returned (.tuple #[.agg #[.int .u64 (hi (wn a b/2^n)),.int .u64 (lo (wn a b/2^n))],.bool (decide (wn a b%2^n≠0))])/\Below w.heap.size w w':=by
 go_enter Tryz.func164,Tryz.ntmps164
 go_wp2
 go_region
 go_wp2
 have ka:0<=a/2^n:=Int.ediv_nonneg ha (Int.le_of_lt (Int.pow_pos (by omega)));obtain⟨k1,k2⟩:=dn_arith_lo a b n ha ha2 hb hb2 (by omega);have kb:0<=bits BinOp.or IntKind.u64 (b/2^n) (IntKind.u64.wrap (a*2^(64-n))):=by rw[k2];exact lo_nonneg _
 have kb2:bits BinOp.or IntKind.u64 (b/2^n) (IntKind.u64.wrap (a*2^(64-n)))<=18446744073709551615:=by rw[k2];exact lo_le _
 have K1:=Lib.hid k1;have K2:=Lib.hid k2;clear k1 k2;generalize a/2^n=x at*;generalize bits BinOp.or IntKind.u64 (b/2^n) (IntKind.u64.wrap (a*2^(64-n)))=y at*;generalize hW:World.drew _=W2;have c1:W2.cell? ⟨w.heap.size,0,none⟩=some (.int .u64 a):=by subst hW;simp (disch:=(simp;try omega)) only[World.cell?_drew,World.cell?_alloc_at,World.cell?_alloc_past];rfl
 have c2:W2.cell? ⟨w.heap.size,1,none⟩=some (.int .u64 b):=by subst hW;simp (disch:=(simp;try omega)) only[World.cell?_drew,World.cell?_alloc_at,World.cell?_alloc_past];rfl
 have c3:W2.cell? ⟨w.heap.size+1+1,0,none⟩=some (.int .u64 x):=by subst hW;simp (disch:=(simp;try omega)) only[World.cell?_drew,World.cell?_alloc_at,World.cell?_alloc_past];rfl
 have c4:W2.cell? ⟨w.heap.size+1+1,1,none⟩=some (.int .u64 y):=by subst hW;simp (disch:=(simp;try omega)) only[World.cell?_drew,World.cell?_alloc_at,World.cell?_alloc_past];rfl
 have c5:W2.cell? ⟨w.heap.size+1,0,none⟩=some (.int .u64 0):=by subst hW;simp (disch:=(simp;try omega)) only[World.cell?_drew,World.cell?_alloc_at,World.cell?_alloc_past];rfl
 have c6:W2.cell? ⟨w.heap.size+1,1,none⟩=some (.int .u64 0):=by subst hW;simp (disch:=(simp;try omega)) only[World.cell?_drew,World.cell?_alloc_at,World.cell?_alloc_past];rfl
 have z5:W2.frozen? ⟨w.heap.size+1,0,none⟩=false:=by subst hW;simp (disch:=(simp;try omega)) only[World.frozen?_drew,World.frozen?_alloc_at,World.frozen?_alloc_past]
 have z6:W2.frozen? ⟨w.heap.size+1,1,none⟩=false:=by subst hW;simp (disch:=(simp;try omega)) only[World.frozen?_drew,World.frozen?_alloc_at,World.frozen?_alloc_past]
 have hs:W2.heap.size=w.heap.size+3:=by rw[<-hW];simp
 have hB:Below w.heap.size w W2:=by rw[<-hW];exact((((Below.refl _ _).alloc (Nat.le_refl _) _).alloc (by simp) _).alloc (by simp;omega) _).drew
 clear hW;have HS:=Lib.hid hs;clear hs
 go_region_held3 (fun w'=>w'.cell? ⟨w.heap.size,0,none⟩=some (.int .u64 a)/\w'.cell? ⟨w.heap.size,1,none⟩=some (.int .u64 b)/\w'.cell? ⟨w.heap.size+1+1,0,none⟩=some (.int .u64 x)/\w'.cell? ⟨w.heap.size+1+1,1,none⟩=some (.int .u64 y))
  (first|go_keep|(refine⟨?_,?_,?_,?_⟩<;>(rw[hcc _ _ (by have:=HS.out;simp;omega)];simpa using by assumption)))
  (first | (go_at_call 240; refine (up_w _ _ _ _ ka kb kb2 (by omega)).mono ?_; rintro e w1 ⟨rfl,hbb⟩; obtain ⟨hcc,hff⟩ := bcell hbb; have s5:w1.cell? ⟨w.heap.size + 1,0,none⟩ = some (.int .u64 0) := by (rw [hcc _ _ (by have := HS.out; simp; omega)]; simpa using c5)
            have s6:w1.cell? ⟨w.heap.size+1,1,none⟩=some (.int .u64 0):=by(rw[hcc _ _ (by have:=HS.out;simp;omega)];simpa using c6)
            have t5:w1.frozen? ⟨w.heap.size+1,0,none⟩=false:=by(rw[hff _ _ (by have:=HS.out;simp;omega)];simpa using z5)
            have t6:w1.frozen? ⟨w.heap.size+1,1,none⟩=false:=by(rw[hff _ _ (by have:=HS.out;simp;omega)];simpa using z6)))
 go_wp2
 refine bodyPost_ret (v:= .tuple #[.agg #[.int .u64 x,.int .u64 y],.bool (!(hi (wn x y*2^n%W128)==a)|| !(lo (wn x y*2^n%W128)==b))]) (by simp[results,Tryz.results164,go_sem,s5,s6]) rfl ⟨?_,?_⟩
 ·rw[K1.out,K2.out,wn_hi_lo,lost_iff a b n ha ha2 hb hb2]
 ·exact(((hB.drew.trans (hbb.mono (by have:=HS.out;simp;omega))).setCell (by simp) _).setCell (by simp) _)
set_option maxHeartbeats 400000 in
theorem down_hi(a b:Int)(n:Nat)(w:World)(ha:0<=a)(ha2:a<=18446744073709551615)(hb:0<=b)(hb2:b<=18446744073709551615)(hn:64<=(n:Int))(hn2:(n:Int)<128) :
  Calls prog 164 #[.agg #[.int .u64 a,.int .u64 b],.int .i64 n] w fun e w'=>e= .returned (.tuple #[.agg #[.int .u64 (hi (wn a b/2^n)),.int .u64 (lo (wn a b/2^n))],.bool (decide (wn a b%2^n≠0))])/\Below w.heap.size w w':=by
 obtain⟨k1,k2⟩:=dn_arith_hi a b n ha ha2 hb hb2 (by omega);have kb:0<=a/2^(n-64):=by rw[k2];exact lo_nonneg _
 have kb2:a/2^(n-64)<=18446744073709551615:=by rw[k2];exact lo_le _
 have K1:=Lib.hid k1;have K2:=Lib.hid k2;clear k1 k2
 go_enter Tryz.func164,Tryz.ntmps164
 go_wp2
 generalize a/2^(n-64)=y at*;have ka:(0:Int)<=0:=by omega
 generalize hW:World.alloc _ _=W2;have c1:W2.cell? ⟨w.heap.size,0,none⟩=some (.int .u64 a):=by subst hW;simp (disch:=(simp;try omega)) only[World.cell?_drew,World.cell?_alloc_at,World.cell?_alloc_past];rfl
 have c2:W2.cell? ⟨w.heap.size,1,none⟩=some (.int .u64 b):=by subst hW;simp (disch:=(simp;try omega)) only[World.cell?_drew,World.cell?_alloc_at,World.cell?_alloc_past];rfl
 have c3:W2.cell? ⟨w.heap.size+1+1,0,none⟩=some (.int .u64 0):=by subst hW;simp (disch:=(simp;try omega)) only[World.cell?_drew,World.cell?_alloc_at,World.cell?_alloc_past];rfl
 have c4:W2.cell? ⟨w.heap.size+1+1,1,none⟩=some (.int .u64 y):=by subst hW;simp (disch:=(simp;try omega)) only[World.cell?_drew,World.cell?_alloc_at,World.cell?_alloc_past];rfl
 have c5:W2.cell? ⟨w.heap.size+1,0,none⟩=some (.int .u64 0):=by subst hW;simp (disch:=(simp;try omega)) only[World.cell?_drew,World.cell?_alloc_at,World.cell?_alloc_past];rfl
 have c6:W2.cell? ⟨w.heap.size+1,1,none⟩=some (.int .u64 0):=by subst hW;simp (disch:=(simp;try omega)) only[World.cell?_drew,World.cell?_alloc_at,World.cell?_alloc_past];rfl
 have z5:W2.frozen? ⟨w.heap.size+1,0,none⟩=false:=by subst hW;simp (disch:=(simp;try omega)) only[World.frozen?_drew,World.frozen?_alloc_at,World.frozen?_alloc_past]
 have z6:W2.frozen? ⟨w.heap.size+1,1,none⟩=false:=by subst hW;simp (disch:=(simp;try omega)) only[World.frozen?_drew,World.frozen?_alloc_at,World.frozen?_alloc_past]
 have hs:W2.heap.size=w.heap.size+3:=by rw[<-hW];simp
 have hB:Below w.heap.size w W2:=by rw[<-hW];exact(((Below.refl _ _).alloc (Nat.le_refl _) _).alloc (by simp) _).alloc (by simp;omega) _
 clear hW;have HS:=Lib.hid hs;clear hs
 go_region_held3 (fun w'=>w'.cell? ⟨w.heap.size,0,none⟩=some (.int .u64 a)/\w'.cell? ⟨w.heap.size,1,none⟩=some (.int .u64 b)/\w'.cell? ⟨w.heap.size+1+1,0,none⟩=some (.int .u64 0)/\w'.cell? ⟨w.heap.size+1+1,1,none⟩=some (.int .u64 y))
  (first|go_keep|(refine⟨?_,?_,?_,?_⟩<;>(rw[hcc _ _ (by have:=HS.out;simp;omega)];simpa using by assumption)))
  (first | (go_at_call 240; refine (up_w _ _ _ _ ka kb kb2 (by omega)).mono ?_; rintro e w1 ⟨rfl,hbb⟩; obtain ⟨hcc,hff⟩ := bcell hbb; have s5:w1.cell? ⟨w.heap.size + 1,0,none⟩ = some (.int .u64 0) := by (rw [hcc _ _ (by have := HS.out; simp; omega)]; simpa using c5)
            have s6:w1.cell? ⟨w.heap.size+1,1,none⟩=some (.int .u64 0):=by(rw[hcc _ _ (by have:=HS.out;simp;omega)];simpa using c6)
            have t5:w1.frozen? ⟨w.heap.size+1,0,none⟩=false:=by(rw[hff _ _ (by have:=HS.out;simp;omega)];simpa using z5)
            have t6:w1.frozen? ⟨w.heap.size+1,1,none⟩=false:=by(rw[hff _ _ (by have:=HS.out;simp;omega)];simpa using z6)))
 go_wp2
 refine bodyPost_ret (v:= .tuple #[.agg #[.int .u64 0,.int .u64 y],.bool (!(hi (wn 0 y*2^n%W128)==a)|| !(lo (wn 0 y*2^n%W128)==b))]) (by simp[results,Tryz.results164,go_sem,s5,s6]) rfl ⟨?_,?_⟩
 ·rw[K1.out,K2.out,wn_hi_lo,lost_iff a b n ha ha2 hb hb2]
 ·exact(((hB.drew.trans (hbb.mono (by have:=HS.out;simp;omega))).setCell (by simp) _).setCell (by simp) _)
set_option maxHeartbeats 400000 in
theorem down_all(a b:Int)(n:Nat)(w:World)(ha:0<=a)(ha2:a<=18446744073709551615)(hb:0<=b)(hb2:b<=18446744073709551615)(hn2:128<=(n:Int)) :
  Calls prog 164 #[.agg #[.int .u64 a,.int .u64 b],.int .i64 n] w fun e w'=>e= .returned (.tuple #[.agg #[.int .u64 (hi (wn a b/2^n)),.int .u64 (lo (wn a b/2^n))],.bool (decide (wn a b%2^n≠0))])/\Below w.heap.size w w':=by
 go_enter Tryz.func164,Tryz.ntmps164
 go_wp2_with (go_at_call 239;refine(is_w _ _ _).mono ?_;rintro e w1 ⟨rfl,hbb⟩;obtain⟨hcc,hff⟩:=bcell hbb)
 have s5:w1.cell? ⟨w.heap.size+1,0,none⟩=some (.int .u64 0):=by(rw[hcc _ _ (by simp)];simp)
 have s6:w1.cell? ⟨w.heap.size+1,1,none⟩=some (.int .u64 0):=by(rw[hcc _ _ (by simp)];simp)
 refine bodyPost_ret (v:= .tuple #[.agg #[.int .u64 0,.int .u64 0],.bool (!a==0|| !b==0)]) (by simp[results,Tryz.results164,go_sem,s5,s6]) rfl ⟨?_,?_⟩
 ·obtain⟨h1,h2,h3⟩:=dn_arith_all a b n ha ha2 hb hb2 (by omega);rw[<-h1,<-h2,h3]
 ·exact(((((Below.refl _ _).alloc (Nat.le_refl _) _).alloc (by simp) _).trans (hbb.mono (by simp;omega))).setCell (by simp) _).setCell (by simp) _
theorem down_w(a b:Int)(n:Nat)(w:World)(ha:0<=a)(ha2:a<=18446744073709551615)(hb:0<=b)(hb2:b<=18446744073709551615) :
  Calls prog 164 #[.agg #[.int .u64 a,.int .u64 b],.int .i64 n] w fun e w'=>e= .returned (.tuple #[.agg #[.int .u64 (hi (wn a b/2^n)),.int .u64 (lo (wn a b/2^n))],.bool (decide (wn a b%2^n≠0))])/\Below w.heap.size w w':=by
 by_cases h1:(n:Int)<64
 ·exact down_lo a b n w ha ha2 hb hb2 h1
 ·by_cases h2:(n:Int)<128
  ·exact down_hi a b n w ha ha2 hb hb2 (by omega) h2
  ·exact down_all a b n w ha ha2 hb hb2 (by omega)
theorem ret_tup{a b:Array Value}(h:a=b):Ending.returned (.tuple a)= .returned (.tuple b):=by rw[h]
set_option maxHeartbeats 400000 in
theorem parts_F(x:F)(w:World) :
  Calls prog 154 #[.float .f64 x.b] w fun e w'=>e= .returned (.tuple #[.bool (decide (x.k<0)),.int .u64 (man x.k.natAbs),.int .i64 (pl x.k.natAbs-1074)])/\w=w':=by
 have hb:=run_fbits;have h1:=b_frac x;have h2:=b_exp x;have h3:=or_hid x.k.natAbs;have h4:=(b_parts x).2.2;have hP:P=4503599627370496:=rfl;have hp:=Nat.div_add_mod x.k.natAbs P;by_cases hE:x.k.natAbs/P=0
 ·have hm:man x.k.natAbs=x.k.natAbs%P:=by have hlt:=Nat.mod_lt x.k.natAbs P_pos;rw[hE,Nat.mul_zero]at hp;unfold man;rw[if_pos (by omega)];omega
  have hl:pl x.k.natAbs=0:=by unfold pl;omega
  rw[hm,hl];rw[hE]at h2;clear h3 h4 hP hp hE hm hl;generalize x.k.natAbs%P=m at*
  go_enter Tryz.func154,Tryz.ntmps154
  go_wp2_with (first|(go_at_call 133;refine(signbit_F _ _).mono ?_;rintro e w' ⟨rfl,rfl⟩))
  go_ret3
  exact⟨ret_tup rfl,rfl⟩
 ·have hm:man x.k.natAbs=P+x.k.natAbs%P:=by unfold man;rw[if_neg];intro h;exact hE (Nat.div_eq_of_lt h)
  have hl:(pl x.k.natAbs:Int)-1074=((x.k.natAbs/P:Nat):Int)+ -1074-1:=by unfold pl;clear h1 h2 h3 hm;generalize x.k.natAbs/P=q at*;omega
  rw[hm,hl];have h5:(1:Int)<=((x.k.natAbs/P:Nat):Int):=by omega
  have h6:((x.k.natAbs/P:Nat):Int)<2047:=by omega
  clear h4 hP hp hE hm hl;generalize x.k.natAbs%P=m at*;generalize x.k.natAbs/P=q at*;generalize P+m=M at*
  go_enter Tryz.func154,Tryz.ntmps154
  go_wp2_with (first|(go_at_call 133;refine(signbit_F _ _).mono ?_;rintro e w' ⟨rfl,rfl⟩))
  go_ret3
  exact⟨ret_tup rfl,rfl⟩
theorem fmul_exact{x y p:F}(hp:p.k≠0)(h:p.z*S=x.z*y.z)(t:TypeId)(w:World):(binOp .mul t (.float .f64 x.b) (.float .f64 y.b)).run prog w= .ok (.float .f64 p.b) w:=
 run_float_arith w .mul t .f64 x.b y.b p.b (mul_exact hp h)
theorem lit52:(4841369599423283200:Nat)=(F.of 4841369599423283200).b:=by decide+kernel
theorem litmin:(4503599627370496:Nat)=(F.of 4503599627370496).b:=by decide+kernel
theorem lit52z:(F.of 4841369599423283200).z=4503599627370496*S:=by decide+kernel
set_option maxHeartbeats 400000 in
theorem normalize_norm(x:F)(w:World)(h:P<=x.k.natAbs) :
  Calls prog 289 #[.float .f64 x.b] w fun e w'=>e= .returned (.tuple #[.float .f64 x.b,.int .i64 0])/\w=w':=by
 have ho:(FloatKind.f64.format.order x.abs.b 4503599627370496==some .lt)=false:=by rw[litmin,ford_lt];have e:P=4503599627370496:=rfl;have e2:x.abs.k=(x.k.natAbs:Int):=rfl;rw[F.of_k (by decide),e2];simp;omega
 go_enter Tryz.func289,Tryz.ntmps289
 go_wp2_with (first|(go_at_call 59;refine(abs_F _ _).mono ?_;rintro e w' ⟨rfl,rfl⟩))
 go_ret2
 exact⟨ret_tup rfl,rfl⟩
set_option maxHeartbeats 400000 in
theorem normalize_sub(x y:F)(w:World)(h:x.k.natAbs<P)(h0:x.k≠0)(hy:y.z=x.z*4503599627370496) :
  Calls prog 289 #[.float .f64 x.b] w fun e w'=>e= .returned (.tuple #[.float .f64 y.b,.int .i64 (-52)])/\w=w':=by
 have ho:(FloatKind.f64.format.order x.abs.b 4503599627370496==some .lt)=true:=by rw[litmin,ford_lt];have e:P=4503599627370496:=rfl;have e2:x.abs.k=(x.k.natAbs:Int):=rfl;rw[F.of_k (by decide),e2];simp;omega
 have hy0:y.k≠0:=fun e=>h0 ((z_zero x).1 (by have:=(z_zero y).2 e;omega));have hm:=fmul_exact (x:=x) (y:=F.of 4841369599423283200) (p:=y) hy0 (by rw[hy,lit52z,Int.mul_assoc]) 28;rw[<-lit52]at hm;clear h h0 hy hy0
 go_enter Tryz.func289,Tryz.ntmps289
 go_wp2_with (first|(go_at_call 59;refine(abs_F _ _).mono ?_;rintro e w' ⟨rfl,rfl⟩))
 go_ret2
 exact⟨ret_tup rfl,rfl⟩
theorem litone:(4607182418800017408:Nat)=(F.of 4607182418800017408).b:=by decide+kernel
theorem litone_z:(F.of 4607182418800017408).z=S:=by decide+kernel
theorem lit53:(4368491638549381120:Nat)=(F.of 4368491638549381120).b:=by decide+kernel
theorem lit53_z:(F.of 4368491638549381120).z*9007199254740992=S:=by decide+kernel
set_option maxHeartbeats 400000 in
theorem ldexp_C(x x' y:F)(n c:Int)(f:Nat)(w:World)(hx:x.k≠0)(hN:∀w,Calls prog 289 #[.float .f64 x.b] w fun e w'=>e= .returned (.tuple #[.float .f64 x'.b,.int .i64 c])/\w=w')
  (hc1:-52<=c) (hc2:c<=0) (hf1:1<=(f:Int)) (hf2:(f:Int)<=2046) (hfn:n+c+((x'.k.natAbs/P:Nat):Int)=f) (hy:y=x'.like (f*P+x'.k.natAbs%P)) :
  Calls prog 223 #[.float .f64 x.b,.int .i64 n] w fun e w'=>e= .returned (.float .f64 y.b)/\w=w':=by
 have hb:=run_fbits;have hf:=run_ffrom;have ho:(FloatKind.f64.format.order x.b 0==some .eq)=false:=by rw[ford0_eq];simpa using hx
 have he:=b_exp_i x';have heq:((x'.k.natAbs/P:Nat):Int)<2047:=by have:=b_parts x';omega
 have hB:=ldexp_bits x' f (by omega) (by omega);rw[<-hy]at hB;have hy0:y.k≠0:=by
  intro e;have h1:=F.like_b x' (f*P+x'.k.natAbs%P) (by have:=P_pos;have:1*P<=f*P:=Nat.mul_le_mul_right _ (by omega);omega) (by have:=Nat.mod_lt x'.k.natAbs P_pos;have:f*P<=2046*P:=Nat.mul_le_mul_right _ (by omega);rw[T_eq];omega);rw[<-hy]at h1;have h2:y.b=0:=by unfold F.b;rw[e];rfl
  have:=P_pos;have:1*P<=f*P:=Nat.mul_le_mul_right _ (by omega);split at h1<;>omega
 have hm:=fmul_exact (x:=F.of 4607182418800017408) (y:=y) (p:=y) hy0 (by rw[litone_z,Int.mul_comm]) 28;rw[<-litone]at hm;generalize x'.k.natAbs/P=q at*;have g1:1<=n+c+q:=by omega
 have g2:n+c+q<=2046:=by omega
 have eB:IntKind.u64.wrap ((f:Int)*4503599627370496)=(n+c+(q-1023)+1023)*4503599627370496:=by rw[IntKind.wrap_u64];omega
 rw[eB]at hB;have HN:=Lib.hid hN;clear hfn hy eB hN hx hy0 hf1 hf2
 go_enter Tryz.func223,Tryz.ntmps223
 go_wp2_with (first|(go_at_call 289;refine(HN.out _).mono ?_;rintro e w' ⟨rfl,rfl⟩)|(go_at_call 131;refine(isNaN_F _ _).mono ?_;rintro e w' ⟨rfl,rfl⟩)|(go_at_call 132;refine(isInf_F _ _).mono ?_;rintro e w' ⟨rfl,rfl⟩))
 go_ret
 exact⟨ret_float rfl,rfl⟩
set_option maxHeartbeats 400000 in
theorem ldexp_D(x x' y y':F)(n c:Int)(f:Nat)(w:World)(hx:x.k≠0)(hN:∀w,Calls prog 289 #[.float .f64 x.b] w fun e w'=>e= .returned (.tuple #[.float .f64 x'.b,.int .i64 c])/\w=w')
  (hc1:-52<=c) (hc2:c<=0) (hf1:1<=(f:Int)) (hf2:(f:Int)<=53) (hfn:n+c+((x'.k.natAbs/P:Nat):Int)+53=f) (hy:y=x'.like (f*P+x'.k.natAbs%P))
  (hy0:y'.k≠0) (hy':y.z=y'.z*9007199254740992) :
  Calls prog 223 #[.float .f64 x.b,.int .i64 n] w fun e w'=>e= .returned (.float .f64 y'.b)/\w=w':=by
 have hb:=run_fbits;have hf:=run_ffrom;have ho:(FloatKind.f64.format.order x.b 0==some .eq)=false:=by rw[ford0_eq];simpa using hx
 have he:=b_exp_i x';have heq:((x'.k.natAbs/P:Nat):Int)<2047:=by have:=b_parts x';omega
 have hB:=ldexp_bits x' f (by omega) (by omega);rw[<-hy]at hB;have hm:=fmul_exact (x:=F.of 4368491638549381120) (y:=y) (p:=y') hy0 (by rw[hy',<-lit53_z,<-Int.mul_assoc,Int.mul_comm y'.z];grind) 28;rw[<-lit53]at hm;generalize x'.k.natAbs/P=q at*;have g1:1<=n+c+q+53:=by omega
 have g2:n+c+q<=0:=by omega
 have eB:IntKind.u64.wrap ((f:Int)*4503599627370496)=(n+c+(q-1023)+53+1023)*4503599627370496:=by rw[IntKind.wrap_u64];omega
 rw[eB]at hB;have HN:=Lib.hid hN;clear hfn hy eB hN hx hy0 hy' hf1 hf2
 go_enter Tryz.func223,Tryz.ntmps223
 go_wp2_with (first|(go_at_call 289;refine(HN.out _).mono ?_;rintro e w' ⟨rfl,rfl⟩)|(go_at_call 131;refine(isNaN_F _ _).mono ?_;rintro e w' ⟨rfl,rfl⟩)|(go_at_call 132;refine(isInf_F _ _).mono ?_;rintro e w' ⟨rfl,rfl⟩))
 go_ret
 exact⟨ret_float rfl,rfl⟩
theorem ldexp_norm(x x' y:F)(n c:Int)(w:World)(hx:x.k≠0)(hN:∀w,Calls prog 289 #[.float .f64 x.b] w fun e w'=>e= .returned (.tuple #[.float .f64 x'.b,.int .i64 c])/\w=w')
  (hc1:-52<=c) (hc:c<=0) (h:Sc x y n) (hP:P<=x'.k.natAbs) (hxx:nv x'.k.natAbs=nv x.k.natAbs*2^(-c).toNat) (hs:x'.k<0↔x.k<0) :
  Calls prog 223 #[.float .f64 x.b,.int .i64 n] w fun e w'=>e= .returned (.float .f64 y.b)/\w=w':=by
 have hy0:y.k≠0:=by
  intro e;have hab:=h.abs;rw[e,Int.natAbs_zero,nv_zero,Nat.zero_mul]at hab;have:nv x.k.natAbs=0:=by
   rcases Nat.mul_eq_zero.1 hab.symm with e|e
   ·exact e
   ·have:=Nat.two_pow_pos n.toNat;omega
  have:=nv_inj (this.trans nv_zero.symm);omega
 rcases ldexp_parts h hx hc hP hxx hs with⟨h1,h2,h3⟩|⟨h1,h2,h3⟩
 ·obtain⟨f,hf⟩:=Int.eq_ofNat_of_zero_le (show 0<=n+c+((x'.k.natAbs/P:Nat):Int) by omega);rw[hf]at h1 h2 h3;exact ldexp_C x x' y n c f w hx hN hc1 hc h1 h2 hf (by rw[h3,tN])
 ·obtain⟨f,hf⟩:=Int.eq_ofNat_of_zero_le (show 0<=n+c+((x'.k.natAbs/P:Nat):Int)+53 by omega);rw[hf]at h1 h2 h3;exact ldexp_D x x' _ y n c f w hx hN hc1 hc h1 h2 hf rfl hy0 (by rw[<-h3,tN])
set_option maxHeartbeats 400000 in
theorem ldexp_zero(n:Int)(w:World) :
  Calls prog 223 #[.float .f64 0,.int .i64 n] w fun e w'=>e= .returned (.float .f64 0)/\w=w':=by
 have ho:(FloatKind.f64.format.order 0 0==some .eq)=true:=by decide
 go_enter Tryz.func223,Tryz.ntmps223
 go_wp2
 go_ret
 exact⟨ret_float rfl,rfl⟩
theorem ldexp_exact(x y:F)(n:Int)(w:World)(h:Sc x y n) :
  Calls prog 223 #[.float .f64 x.b,.int .i64 n] w fun e w'=>e= .returned (.float .f64 y.b)/\w=w':=by
 by_cases hx:x.k=0
 ·have e1:x=F.zero:=F.ext' hx;have e2:y=F.zero:=by
   apply F.ext';apply (z_zero y).1;unfold Sc at h;rw[(z_zero x).2 hx,Int.zero_mul]at h;rcases Int.mul_eq_zero.1 h with e|e
   ·exact e
   ·have:=Nat.two_pow_pos (-n).toNat;omega
  subst e1 e2;rw[b_zero];exact ldexp_zero n w
 by_cases hP:P<=x.k.natAbs
 ·exact ldexp_norm x x y n 0 w hx (fun w=>normalize_norm x w hP) (by omega) (by omega) h hP (by simp) (Iff.rfl)
 ·obtain⟨x',h1,h2,h3,h4⟩:=lift_sub x (by omega) hx;exact ldexp_norm x x' y n (-52) w hx (fun w=>normalize_sub x x' w (by omega) hx h1) (by omega) (by omega) h h2 h3 h4
set_option maxHeartbeats 400000 in
theorem Ldexp_exact(x y:F)(n:Int)(w:World)(h:Sc x y n) :
  Calls prog 148 #[.float .f64 x.b,.int .i64 n] w fun e w'=>e= .returned (.float .f64 y.b)/\w=w':=by
 have H:=Lib.hid h;clear h
 go_enter Tryz.func148,Tryz.ntmps148
 go_wp2_with (go_at_call 223;refine(ldexp_exact x y n _ H.out).mono ?_;rintro e w' ⟨rfl,rfl⟩)
 go_ret
 exact⟨ret_float rfl,rfl⟩
theorem run_unary_neg_F(x:F)(h:x.k≠0)(w:World):(Op.unary .neg (.float .f64 x.b)).run prog w= .ok (.float .f64 x.neg.b) w:=by rw[<-negFloat_F x h];rfl
theorem len64_w(n:Nat)(w:World)(h:(n:Int)<=18446744073709551615) :
  Calls prog 147 #[.int .u64 n] w fun e w'=>e= .returned (.int .i64 (blen n))/\w=w':=
 (Tryz.bits_Len64 n w (by omega) h).mono fun e w' ⟨h1,h2⟩=>⟨by rw[h1,tN,lib_blen n (by omega)],h2.symm⟩
theorem floatOfInt_dy(m:Nat)(h:(m:Int)<=9007199254740992):floatOfInt .f64 (m:Int)=(F.dy m 0).b:=by unfold floatOfInt FloatKind.nearest FloatKind.encode;exact nat_conv (by rw[show 2*P=9007199254740992 from rfl];omega)
theorem neg_dy(m:Nat)(e:Int)(h:(m:Int)<=9007199254740992)(h0:m≠0)(he:-1074<=e)(h1:(blen m:Int)+e<=1024)(w:World) :
  (Op.unary .neg (.float .f64 (F.dy m e).b)).run prog w= .ok (.float .f64 (F.dy m e).neg.b) w:=
 run_unary_neg_F _ (dy_pos (by rw[show 2*P=9007199254740992 from rfl];omega) h0 he h1) w
theorem Sc_dy(m:Nat)(e:Int)(h:(m:Int)<=9007199254740992)(he:-1074<=e)(h1:(blen m:Int)+e<=1024):Sc (F.dy m 0) (F.dy m e) e:=
 nat_Sc (by rw[show 2*P=9007199254740992 from rfl];omega) he h1
theorem blen_54(m:Nat)(h:(m:Int)<=9007199254740992):(blen m:Int)<=54:=by have:=blen_2P (m:=m) (by rw[show 2*P=9007199254740992 from rfl];omega);omega
theorem max_conv:floatOfInt .f64 9007199254740991=(F.dy 9007199254740991 0).b:=by decide+kernel
theorem max_Sc:Sc (F.dy 9007199254740991 0) F.max 971:=by have h:=nat_Sc (m:=9007199254740991) (e:=971) (by decide) (by decide) (by decide);rw[dy_max]at h;exact h
def TwoIs(r:F×Int)(x:Nat)(n:Int):Prop:=r.1.b=x/\r.2=n
theorem ret_two{r:F×Int}{x:Nat}{n:Int}(h:TwoIs r x n):Ending.returned (.tuple #[.float .f64 x,.int .i64 n])= .returned (.tuple #[.float .f64 r.1.b,.int .i64 r.2]):=by rw[h.1,h.2]
section
variable {minus more up lost away:Bool} {e:Int} {n X m0 m:Nat}
theorem rndG_eq(hX:cutN n e=X)(h0:n/2^X=m0)(hl:decide (n%2^X≠0)=lost)(hm:mUp minus more up lost m0=m):rndG minus n more e up=rndOut minus (up != minus) m (e+X):=by subst hX h0 hl hm;rfl
theorem rnd_zero(hX:cutN n e=X)(h0:n/2^X=m0)(hl:decide (n%2^X≠0)=lost)(hm:mUp minus more up lost m0=0):TwoIs (rndG minus n more e up) 0 0:=by rw[rndG_eq hX h0 hl hm];unfold rndOut;rw[if_pos rfl];exact⟨b_zero,rfl⟩
theorem rnd_overT(hX:cutN n e=X)(h0:n/2^X=m0)(hl:decide (n%2^X≠0)=lost)(hm:mUp minus more up lost m0=m)(hz:m≠0)(g:1024<(blen m:Int)+(e+X))(ha:(up != minus)=true) :
  TwoIs (rndG minus n more e up) 0 10:=by
 rw[rndG_eq hX h0 hl hm];unfold rndOut;rw[if_neg hz,if_pos g,if_pos ha];exact⟨b_zero,rfl⟩
theorem rnd_overF(hX:cutN n e=X)(h0:n/2^X=m0)(hl:decide (n%2^X≠0)=lost)(hm:mUp minus more up lost m0=m)(hz:m≠0)(g:1024<(blen m:Int)+(e+X))(ha:(up != minus)=false) :
  TwoIs (rndG minus n more e up) (F.turn minus F.max).b 0:=by
 rw[rndG_eq hX h0 hl hm];unfold rndOut;rw[if_neg hz,if_pos g,if_neg (by simp[ha])];exact⟨rfl,rfl⟩
theorem rnd_mid(hX:cutN n e=X)(h0:n/2^X=m0)(hl:decide (n%2^X≠0)=lost)(hm:mUp minus more up lost m0=m)(hz:m≠0)(g:¬1024<(blen m:Int)+(e+X)) :
  TwoIs (rndG minus n more e up) (F.turn minus (F.dy m (e+X))).b 0:=by
 rw[rndG_eq hX h0 hl hm];unfold rndOut;rw[if_neg hz,if_neg g];exact⟨rfl,rfl⟩
end
theorem rnd_overfalsefalse{more lost:Bool}{e:Int}{n X m0 m:Nat}(hX:cutN n e=X)(h0:n/2^X=m0)(hl:decide (n%2^X≠0)=lost)(hm:mUp false more false lost m0=m)(hz:m≠0)(g:1024<(blen m:Int)+(e+X)) :
  TwoIs (rndG false n more e false) F.max.b 0:=by have h:=rnd_overF hX h0 hl hm hz g rfl;rw[turn_false]at h;exact h
theorem rnd_overfalsetrue{more lost:Bool}{e:Int}{n X m0 m:Nat}(hX:cutN n e=X)(h0:n/2^X=m0)(hl:decide (n%2^X≠0)=lost)(hm:mUp true more true lost m0=m)(hz:m≠0)(g:1024<(blen m:Int)+(e+X)) :
  TwoIs (rndG true n more e true) F.max.neg.b 0:=by have h:=rnd_overF hX h0 hl hm hz g rfl;rw[turn_true]at h;exact h
theorem rnd_overtruefalse{more lost:Bool}{e:Int}{n X m0 m:Nat}(hX:cutN n e=X)(h0:n/2^X=m0)(hl:decide (n%2^X≠0)=lost)(hm:mUp false more true lost m0=m)(hz:m≠0)(g:1024<(blen m:Int)+(e+X)) :
  TwoIs (rndG false n more e true) 0 10:=rnd_overT hX h0 hl hm hz g rfl
theorem rnd_overtruetrue{more lost:Bool}{e:Int}{n X m0 m:Nat}(hX:cutN n e=X)(h0:n/2^X=m0)(hl:decide (n%2^X≠0)=lost)(hm:mUp true more false lost m0=m)(hz:m≠0)(g:1024<(blen m:Int)+(e+X)) :
  TwoIs (rndG true n more e false) 0 10:=rnd_overT hX h0 hl hm hz g rfl
theorem rnd_midfalse{more lost up:Bool}{e:Int}{n X m0 m:Nat}(hX:cutN n e=X)(h0:n/2^X=m0)(hl:decide (n%2^X≠0)=lost)(hm:mUp false more up lost m0=m)(hz:m≠0)(g:¬1024<(blen m:Int)+(e+X)) :
  TwoIs (rndG false n more e up) (F.dy m (e+X)).b 0:=by have h:=rnd_mid hX h0 hl hm hz g;rw[turn_false]at h;exact h
theorem rnd_midtrue{more lost up:Bool}{e:Int}{n X m0 m:Nat}(hX:cutN n e=X)(h0:n/2^X=m0)(hl:decide (n%2^X≠0)=lost)(hm:mUp true more up lost m0=m)(hz:m≠0)(g:¬1024<(blen m:Int)+(e+X)) :
  TwoIs (rndG true n more e up) (F.dy m (e+X)).neg.b 0:=by have h:=rnd_mid hX h0 hl hm hz g;rw[turn_true]at h;exact h
theorem size_i(a b:Int)(w:World)(ha:0<=a)(ha2:a<=18446744073709551615)(hb:0<=b)(hb2:b<=18446744073709551615) :
  Calls prog 236 #[.agg #[.int .u64 a,.int .u64 b]] w fun e w'=>e= .returned (.int .i64 (blen (wn a b)))/\Below w.heap.size w w':=by
 obtain⟨x,rfl⟩:=Int.eq_ofNat_of_zero_le ha;obtain⟨y,rfl⟩:=Int.eq_ofNat_of_zero_le hb;refine(size_w x y w ha2 hb2).mono ?_;rintro e w' ⟨rfl,h⟩;refine⟨ret_int ?_,h⟩;rw[lib_blen x (by omega),lib_blen y (by omega),blen_wn x y (by omega)];split<;>simp
set_option maxHeartbeats 2000000 in
theorem rounded_w(minus more up:Bool)(a b e:Int)(w:World)(ha:0<=a)(ha2:a<=18446744073709551615)(hb:0<=b)(hb2:b<=18446744073709551615)(he1:-5000<=e)(he2:e<=5000) :
  Calls prog 156 #[.agg #[.bool minus,.int .u64 a,.int .u64 b,.bool more,.int .i64 e],.bool up] w fun q w'=>q= .returned (.tuple #[.float .f64 (rndG minus (wn a b) more e up).1.b,.int .i64 (rndG minus (wn a b) more e up).2])/\Below w.heap.size w w':=by
 go_enter Tryz.func156,Tryz.ntmps156
 go_wp2_with fail
 generalize hW:World.alloc _ _=W;have c0:W.cell? ⟨w.heap.size,0,none⟩=some (.bool minus):=by subst hW;simp (disch:=(simp;try omega)) only[World.cell?_drew,World.cell?_alloc_at,World.cell?_alloc_past];rfl
 have c1:W.cell? ⟨w.heap.size,1,none⟩=some (.int .u64 a):=by subst hW;simp (disch:=(simp;try omega)) only[World.cell?_drew,World.cell?_alloc_at,World.cell?_alloc_past];rfl
 have c2:W.cell? ⟨w.heap.size,2,none⟩=some (.int .u64 b):=by subst hW;simp (disch:=(simp;try omega)) only[World.cell?_drew,World.cell?_alloc_at,World.cell?_alloc_past];rfl
 have c3:W.cell? ⟨w.heap.size,3,none⟩=some (.bool more):=by subst hW;simp (disch:=(simp;try omega)) only[World.cell?_drew,World.cell?_alloc_at,World.cell?_alloc_past];rfl
 have c4:W.cell? ⟨w.heap.size,4,none⟩=some (.int .i64 e):=by subst hW;simp (disch:=(simp;try omega)) only[World.cell?_drew,World.cell?_alloc_at,World.cell?_alloc_past];rfl
 have hs:W.heap.size=w.heap.size+1:=by rw[<-hW];simp
 have hB:Below w.heap.size w W:=by rw[<-hW];exact(Below.refl _ _).alloc (Nat.le_refl _) _
 clear hW;have HS:=Lib.hid hs;clear hs
 go_region_held3 (fun w'=>w'.cell? ⟨w.heap.size,0,none⟩=some (.bool minus)/\w'.cell? ⟨w.heap.size,1,none⟩=some (.int .u64 a)/\w'.cell? ⟨w.heap.size,2,none⟩=some (.int .u64 b)/\w'.cell? ⟨w.heap.size,3,none⟩=some (.bool more)/\w'.cell? ⟨w.heap.size,4,none⟩=some (.int .i64 e))
  (first|go_keep|(refine⟨?_,?_,?_,?_,?_⟩<;>(rw[hcc _ _ (by have:=HS.out;simp;omega)];simpa using by assumption)))
  (first|(go_at_call 236;refine(size_i _ _ _ ha ha2 hb hb2).mono ?_;rintro e w1 ⟨rfl,hbb⟩;obtain⟨hcc,hff⟩:=bcell hbb))
 have d0:w1.cell? ⟨w.heap.size,0,none⟩=some (.bool minus):=by rw[hcc _ _ (by have:=HS.out;simp;omega)];exact c0
 have d1:w1.cell? ⟨w.heap.size,1,none⟩=some (.int .u64 a):=by rw[hcc _ _ (by have:=HS.out;simp;omega)];exact c1
 have d2:w1.cell? ⟨w.heap.size,2,none⟩=some (.int .u64 b):=by rw[hcc _ _ (by have:=HS.out;simp;omega)];exact c2
 have d3:w1.cell? ⟨w.heap.size,3,none⟩=some (.bool more):=by rw[hcc _ _ (by have:=HS.out;simp;omega)];exact c3
 have d4:w1.cell? ⟨w.heap.size,4,none⟩=some (.int .i64 e):=by rw[hcc _ _ (by have:=HS.out;simp;omega)];exact c4
 have hz1:w.heap.size<w1.heap.size:=by have:=HS.out;have:=hbb.size;simp at this;omega
 have hB1:Below w.heap.size w w1:=hB.drew.trans (hbb.mono (by have:=HS.out;simp;omega));generalize hC:(if _<(0:Int)then(0:Int)else _)=C;have hC2:C=(cutN (wn a b) e:Int):=by have hl:=blen_wn_le a b ha2 hb2;rw[<-hC,IntWalk.i64_in _ (by omega),IntWalk.i64_in _ (by omega)];unfold cutN;split<;>split<;>omega
 have hC3:cutN (wn a b) e<=5000:=by have hl:=blen_wn_le a b ha2 hb2;unfold cutN;omega
 clear hC;subst hC2;clear c0 c1 c2 c3 c4 hB HS hbb hcc hff;have L0:=cut_lt (wn a b) e;have L1:lo (wn a b/2^cutN (wn a b) e)=((wn a b/2^cutN (wn a b) e:Nat):Int):=by unfold lo;generalize wn a b/2^cutN (wn a b) e=u at*;omega
 have L2:((wn a b/2^cutN (wn a b) e:Nat):Int)<=9007199254740991:=by omega
 clear L0;have J1:=Lib.hid L1;clear L1
 go_wp2_with (first|(go_at_call 164;refine(down_w _ _ _ _ ha ha2 hb hb2).mono ?_;rintro e w2 ⟨rfl,hbb⟩;obtain⟨hcc,hff⟩:=bcell hbb))
 have HL:=Lib.hid (show decide (wn a b%2^cutN (wn a b) e≠0)=(!decide (wn a b%2^cutN (wn a b) e=0)) by simp);generalize hX:cutN (wn a b) e=X at*;generalize (!decide (wn a b%2^X=0))=lost at*;generalize hm0:wn a b/2^X=m0 at*;have K0:=Lib.hid hm0;have KX:=Lib.hid hX;clear hm0 hX;simp only[J1.out];generalize hW:World.alloc _ _=W2;have e0:W2.cell? ⟨w.heap.size,0,none⟩=some (.bool minus):=by subst hW;rw[World.cell?_alloc_past _ _ _ (by have:=hbb.size;omega),hcc _ _ hz1];exact d0
 have e3:W2.cell? ⟨w.heap.size,3,none⟩=some (.bool more):=by subst hW;rw[World.cell?_alloc_past _ _ _ (by have:=hbb.size;omega),hcc _ _ hz1];exact d3
 have e4:W2.cell? ⟨w.heap.size,4,none⟩=some (.int .i64 e):=by subst hW;rw[World.cell?_alloc_past _ _ _ (by have:=hbb.size;omega),hcc _ _ hz1];exact d4
 have e5:W2.cell? ⟨w2.heap.size,1,none⟩=some (.int .u64 m0):=by subst hW;rw[World.cell?_alloc_at _ _ _ _ rfl];rfl
 have hB2:Below w.heap.size w W2:=by rw[<-hW];exact(hB1.trans (hbb.mono (by omega))).alloc (by have:=hbb.size;omega) _
 clear hW d0 d1 d2 d3 d4 hcc hff hbb hz1 hB1 ha ha2 hb hb2
 go_region
 by_cases hA:up=minus
 ·subst hA;have HM:=Lib.hid (show mUp up more up lost m0=m0 by unfold mUp;simp);cases up
  ·as_aux_lemma=>
   by_cases z:m0=0
   ·subst z;have HR:=Lib.hid (show TwoIs (rndG false (wn a b) more e false) 0 0 from rnd_zero KX.out K0.out HL.out HM.out)
    go_wp2_with (first|(go_at_call 147;refine(len64_w _ _ (by omega)).mono ?_;rintro e w' ⟨rfl,rfl⟩)|(go_at_call 148;refine(Ldexp_exact _ _ _ _ HSc.out).mono ?_;rintro e w' ⟨rfl,rfl⟩))
    go_ret2
    exact⟨ret_two HR.out,hB2.drew⟩
   ·have z':(((m0:Nat):Int)==0)=false:=by rw[beq_eq_false_iff_ne];omega
    have hbl:=blen_54 m0 (by omega);have Z:=Lib.hid z;clear z;by_cases g:1024<(blen m0:Int)+(e+X)
    ·have HR:=Lib.hid (show TwoIs (rndG false (wn a b) more e false) F.max.b 0 from rnd_overfalsefalse KX.out K0.out HL.out HM.out Z.out g);have HSc:=Lib.hid max_Sc;have HC:=max_conv;have hne:=run_unary_neg_F F.max (by rw[F.max_k];omega);generalize F.max=y0 at*;generalize F.dy 9007199254740991 0=x0 at*
     go_wp2_with (first|(go_at_call 147;refine(len64_w _ _ (by omega)).mono ?_;rintro e w' ⟨rfl,rfl⟩)|(go_at_call 148;refine(Ldexp_exact _ _ _ _ HSc.out).mono ?_;rintro e w' ⟨rfl,rfl⟩))
     go_ret2
     exact⟨ret_two HR.out,hB2.drew⟩
    ·have hge:-1074<=e+X:=by have h1:=KX.out;unfold cutN at h1;omega
     have HR:=Lib.hid (show TwoIs (rndG false (wn a b) more e false) (F.dy m0 (e+X)).b 0 from rnd_midfalse KX.out K0.out HL.out HM.out Z.out g);have HSc:=Lib.hid (Sc_dy m0 (e+X) (by omega) hge (by omega));have HC:=floatOfInt_dy m0 (by omega);have hne:=neg_dy m0 (e+X) (by omega) Z.out hge (by omega);have g':(blen m0:Int)+(e+X)<=1024:=by omega
     clear g;generalize F.dy m0 0=x0 at*;generalize F.dy m0 (e+X)=y0 at*
     go_wp2_with (first|(go_at_call 147;refine(len64_w _ _ (by omega)).mono ?_;rintro e w' ⟨rfl,rfl⟩)|(go_at_call 148;refine(Ldexp_exact _ _ _ _ HSc.out).mono ?_;rintro e w' ⟨rfl,rfl⟩))
     go_ret2
     exact⟨ret_two HR.out,hB2.drew⟩
  ·as_aux_lemma=>
   by_cases z:m0=0
   ·subst z;have HR:=Lib.hid (show TwoIs (rndG true (wn a b) more e true) 0 0 from rnd_zero KX.out K0.out HL.out HM.out)
    go_wp2_with (first|(go_at_call 147;refine(len64_w _ _ (by omega)).mono ?_;rintro e w' ⟨rfl,rfl⟩)|(go_at_call 148;refine(Ldexp_exact _ _ _ _ HSc.out).mono ?_;rintro e w' ⟨rfl,rfl⟩))
    go_ret2
    exact⟨ret_two HR.out,hB2.drew⟩
   ·have z':(((m0:Nat):Int)==0)=false:=by rw[beq_eq_false_iff_ne];omega
    have hbl:=blen_54 m0 (by omega);have Z:=Lib.hid z;clear z;by_cases g:1024<(blen m0:Int)+(e+X)
    ·have HR:=Lib.hid (show TwoIs (rndG true (wn a b) more e true) F.max.neg.b 0 from rnd_overfalsetrue KX.out K0.out HL.out HM.out Z.out g);have HSc:=Lib.hid max_Sc;have HC:=max_conv;have hne:=run_unary_neg_F F.max (by rw[F.max_k];omega);generalize F.max=y0 at*;generalize F.dy 9007199254740991 0=x0 at*
     go_wp2_with (first|(go_at_call 147;refine(len64_w _ _ (by omega)).mono ?_;rintro e w' ⟨rfl,rfl⟩)|(go_at_call 148;refine(Ldexp_exact _ _ _ _ HSc.out).mono ?_;rintro e w' ⟨rfl,rfl⟩))
     go_ret2
     exact⟨ret_two HR.out,hB2.drew⟩
    ·have hge:-1074<=e+X:=by have h1:=KX.out;unfold cutN at h1;omega
     have HR:=Lib.hid (show TwoIs (rndG true (wn a b) more e true) (F.dy m0 (e+X)).neg.b 0 from rnd_midtrue KX.out K0.out HL.out HM.out Z.out g);have HSc:=Lib.hid (Sc_dy m0 (e+X) (by omega) hge (by omega));have HC:=floatOfInt_dy m0 (by omega);have hne:=neg_dy m0 (e+X) (by omega) Z.out hge (by omega);have g':(blen m0:Int)+(e+X)<=1024:=by omega
     clear g;generalize F.dy m0 0=x0 at*;generalize F.dy m0 (e+X)=y0 at*
     go_wp2_with (first|(go_at_call 147;refine(len64_w _ _ (by omega)).mono ?_;rintro e w' ⟨rfl,rfl⟩)|(go_at_call 148;refine(Ldexp_exact _ _ _ _ HSc.out).mono ?_;rintro e w' ⟨rfl,rfl⟩))
     go_ret2
     exact⟨ret_two HR.out,hB2.drew⟩
 ·cases up<;>cases minus
  ·exact absurd rfl hA
  ·clear hA;cases lost
   ·cases more
    ·as_aux_lemma=>
     have HM:=Lib.hid (show mUp true false false false m0=m0 from rfl);by_cases z:m0=0
     ·subst z;have HR:=Lib.hid (show TwoIs (rndG true (wn a b) false e false) 0 0 from rnd_zero KX.out K0.out HL.out HM.out)
      go_wp2_with (first|(go_at_call 147;refine(len64_w _ _ (by omega)).mono ?_;rintro e w' ⟨rfl,rfl⟩)|(go_at_call 148;refine(Ldexp_exact _ _ _ _ HSc.out).mono ?_;rintro e w' ⟨rfl,rfl⟩))
      go_ret2
      exact⟨ret_two HR.out,hB2.drew⟩
     ·have z':(((m0:Nat):Int)==0)=false:=by rw[beq_eq_false_iff_ne];omega
      have hbl:=blen_54 m0 (by omega);have Z:=Lib.hid z;clear z;by_cases g:1024<(blen m0:Int)+(e+X)
      ·have HR:=Lib.hid (show TwoIs (rndG true (wn a b) false e false) 0 10 from rnd_overtruetrue KX.out K0.out HL.out HM.out Z.out g);have HSc:=Lib.hid max_Sc;have HC:=max_conv;have hne:=run_unary_neg_F F.max (by rw[F.max_k];omega);generalize F.max=y0 at*;generalize F.dy 9007199254740991 0=x0 at*
       go_wp2_with (first|(go_at_call 147;refine(len64_w _ _ (by omega)).mono ?_;rintro e w' ⟨rfl,rfl⟩)|(go_at_call 148;refine(Ldexp_exact _ _ _ _ HSc.out).mono ?_;rintro e w' ⟨rfl,rfl⟩))
       go_ret2
       exact⟨ret_two HR.out,hB2.drew⟩
      ·have hge:-1074<=e+X:=by have h1:=KX.out;unfold cutN at h1;omega
       have HR:=Lib.hid (show TwoIs (rndG true (wn a b) false e false) (F.dy m0 (e+X)).neg.b 0 from rnd_midtrue KX.out K0.out HL.out HM.out Z.out g);have HSc:=Lib.hid (Sc_dy m0 (e+X) (by omega) hge (by omega));have HC:=floatOfInt_dy m0 (by omega);have hne:=neg_dy m0 (e+X) (by omega) Z.out hge (by omega);have g':(blen m0:Int)+(e+X)<=1024:=by omega
       clear g;generalize F.dy m0 0=x0 at*;generalize F.dy m0 (e+X)=y0 at*
       go_wp2_with (first|(go_at_call 147;refine(len64_w _ _ (by omega)).mono ?_;rintro e w' ⟨rfl,rfl⟩)|(go_at_call 148;refine(Ldexp_exact _ _ _ _ HSc.out).mono ?_;rintro e w' ⟨rfl,rfl⟩))
       go_ret2
       exact⟨ret_two HR.out,hB2.drew⟩
    ·as_aux_lemma=>
     have HM:=Lib.hid (show mUp true true false false m0=m0+1 by rfl);have z':(((m0:Nat):Int)+1==0)=false:=by rw[beq_eq_false_iff_ne];omega
     go_wp2_with fail
     have Z:=Lib.hid (show m0+1≠0 by omega);have hbl:=blen_54 (m0+1) (by omega);have hm2:((m0+1:Nat):Int)<=9007199254740992:=by omega
     simp only[show((m0:Nat):Int)+1=((m0+1:Nat):Int)from by omega]at z' ⊢;generalize m0+1=m at*;by_cases g:1024<(blen m:Int)+(e+X)
     ·have HR:=Lib.hid (show TwoIs (rndG true (wn a b) true e false) 0 10 from rnd_overtruetrue KX.out K0.out HL.out HM.out Z.out g);have HSc:=Lib.hid max_Sc;have HC:=max_conv;have hne:=run_unary_neg_F F.max (by rw[F.max_k];omega);generalize F.max=y0 at*;generalize F.dy 9007199254740991 0=x0 at*
      go_wp2_with (first|(go_at_call 147;refine(len64_w _ _ (by omega)).mono ?_;rintro e w' ⟨rfl,rfl⟩)|(go_at_call 148;refine(Ldexp_exact _ _ _ _ HSc.out).mono ?_;rintro e w' ⟨rfl,rfl⟩))
      go_ret2
      exact⟨ret_two HR.out,hB2.drew⟩
     ·have hge:-1074<=e+X:=by have h1:=KX.out;unfold cutN at h1;omega
      have HR:=Lib.hid (show TwoIs (rndG true (wn a b) true e false) (F.dy m (e+X)).neg.b 0 from rnd_midtrue KX.out K0.out HL.out HM.out Z.out g);have HSc:=Lib.hid (Sc_dy m (e+X) (by omega) hge (by omega));have HC:=floatOfInt_dy m (by omega);have hne:=neg_dy m (e+X) (by omega) Z.out hge (by omega);have g':(blen m:Int)+(e+X)<=1024:=by omega
      clear g;generalize F.dy m 0=x0 at*;generalize F.dy m (e+X)=y0 at*
      go_wp2_with (first|(go_at_call 147;refine(len64_w _ _ (by omega)).mono ?_;rintro e w' ⟨rfl,rfl⟩)|(go_at_call 148;refine(Ldexp_exact _ _ _ _ HSc.out).mono ?_;rintro e w' ⟨rfl,rfl⟩))
      go_ret2
      exact⟨ret_two HR.out,hB2.drew⟩
   ·as_aux_lemma=>
    have HM:=Lib.hid (show mUp true more false true m0=m0+1 by rfl);have z':(((m0:Nat):Int)+1==0)=false:=by rw[beq_eq_false_iff_ne];omega
    go_wp2_with fail
    have Z:=Lib.hid (show m0+1≠0 by omega);have hbl:=blen_54 (m0+1) (by omega);have hm2:((m0+1:Nat):Int)<=9007199254740992:=by omega
    simp only[show((m0:Nat):Int)+1=((m0+1:Nat):Int)from by omega]at z' ⊢;generalize m0+1=m at*;by_cases g:1024<(blen m:Int)+(e+X)
    ·have HR:=Lib.hid (show TwoIs (rndG true (wn a b) more e false) 0 10 from rnd_overtruetrue KX.out K0.out HL.out HM.out Z.out g);have HSc:=Lib.hid max_Sc;have HC:=max_conv;have hne:=run_unary_neg_F F.max (by rw[F.max_k];omega);generalize F.max=y0 at*;generalize F.dy 9007199254740991 0=x0 at*
     go_wp2_with (first|(go_at_call 147;refine(len64_w _ _ (by omega)).mono ?_;rintro e w' ⟨rfl,rfl⟩)|(go_at_call 148;refine(Ldexp_exact _ _ _ _ HSc.out).mono ?_;rintro e w' ⟨rfl,rfl⟩))
     go_ret2
     exact⟨ret_two HR.out,hB2.drew⟩
    ·have hge:-1074<=e+X:=by have h1:=KX.out;unfold cutN at h1;omega
     have HR:=Lib.hid (show TwoIs (rndG true (wn a b) more e false) (F.dy m (e+X)).neg.b 0 from rnd_midtrue KX.out K0.out HL.out HM.out Z.out g);have HSc:=Lib.hid (Sc_dy m (e+X) (by omega) hge (by omega));have HC:=floatOfInt_dy m (by omega);have hne:=neg_dy m (e+X) (by omega) Z.out hge (by omega);have g':(blen m:Int)+(e+X)<=1024:=by omega
     clear g;generalize F.dy m 0=x0 at*;generalize F.dy m (e+X)=y0 at*
     go_wp2_with (first|(go_at_call 147;refine(len64_w _ _ (by omega)).mono ?_;rintro e w' ⟨rfl,rfl⟩)|(go_at_call 148;refine(Ldexp_exact _ _ _ _ HSc.out).mono ?_;rintro e w' ⟨rfl,rfl⟩))
     go_ret2
     exact⟨ret_two HR.out,hB2.drew⟩
  ·clear hA;cases lost
   ·cases more
    ·as_aux_lemma=>
     have HM:=Lib.hid (show mUp false false true false m0=m0 from rfl);by_cases z:m0=0
     ·subst z;have HR:=Lib.hid (show TwoIs (rndG false (wn a b) false e true) 0 0 from rnd_zero KX.out K0.out HL.out HM.out)
      go_wp2_with (first|(go_at_call 147;refine(len64_w _ _ (by omega)).mono ?_;rintro e w' ⟨rfl,rfl⟩)|(go_at_call 148;refine(Ldexp_exact _ _ _ _ HSc.out).mono ?_;rintro e w' ⟨rfl,rfl⟩))
      go_ret2
      exact⟨ret_two HR.out,hB2.drew⟩
     ·have z':(((m0:Nat):Int)==0)=false:=by rw[beq_eq_false_iff_ne];omega
      have hbl:=blen_54 m0 (by omega);have Z:=Lib.hid z;clear z;by_cases g:1024<(blen m0:Int)+(e+X)
      ·have HR:=Lib.hid (show TwoIs (rndG false (wn a b) false e true) 0 10 from rnd_overtruefalse KX.out K0.out HL.out HM.out Z.out g);have HSc:=Lib.hid max_Sc;have HC:=max_conv;have hne:=run_unary_neg_F F.max (by rw[F.max_k];omega);generalize F.max=y0 at*;generalize F.dy 9007199254740991 0=x0 at*
       go_wp2_with (first|(go_at_call 147;refine(len64_w _ _ (by omega)).mono ?_;rintro e w' ⟨rfl,rfl⟩)|(go_at_call 148;refine(Ldexp_exact _ _ _ _ HSc.out).mono ?_;rintro e w' ⟨rfl,rfl⟩))
       go_ret2
       exact⟨ret_two HR.out,hB2.drew⟩
      ·have hge:-1074<=e+X:=by have h1:=KX.out;unfold cutN at h1;omega
       have HR:=Lib.hid (show TwoIs (rndG false (wn a b) false e true) (F.dy m0 (e+X)).b 0 from rnd_midfalse KX.out K0.out HL.out HM.out Z.out g);have HSc:=Lib.hid (Sc_dy m0 (e+X) (by omega) hge (by omega));have HC:=floatOfInt_dy m0 (by omega);have hne:=neg_dy m0 (e+X) (by omega) Z.out hge (by omega);have g':(blen m0:Int)+(e+X)<=1024:=by omega
       clear g;generalize F.dy m0 0=x0 at*;generalize F.dy m0 (e+X)=y0 at*
       go_wp2_with (first|(go_at_call 147;refine(len64_w _ _ (by omega)).mono ?_;rintro e w' ⟨rfl,rfl⟩)|(go_at_call 148;refine(Ldexp_exact _ _ _ _ HSc.out).mono ?_;rintro e w' ⟨rfl,rfl⟩))
       go_ret2
       exact⟨ret_two HR.out,hB2.drew⟩
    ·as_aux_lemma=>
     have HM:=Lib.hid (show mUp false true true false m0=m0+1 by rfl);have z':(((m0:Nat):Int)+1==0)=false:=by rw[beq_eq_false_iff_ne];omega
     go_wp2_with fail
     have Z:=Lib.hid (show m0+1≠0 by omega);have hbl:=blen_54 (m0+1) (by omega);have hm2:((m0+1:Nat):Int)<=9007199254740992:=by omega
     simp only[show((m0:Nat):Int)+1=((m0+1:Nat):Int)from by omega]at z' ⊢;generalize m0+1=m at*;by_cases g:1024<(blen m:Int)+(e+X)
     ·have HR:=Lib.hid (show TwoIs (rndG false (wn a b) true e true) 0 10 from rnd_overtruefalse KX.out K0.out HL.out HM.out Z.out g);have HSc:=Lib.hid max_Sc;have HC:=max_conv;have hne:=run_unary_neg_F F.max (by rw[F.max_k];omega);generalize F.max=y0 at*;generalize F.dy 9007199254740991 0=x0 at*
      go_wp2_with (first|(go_at_call 147;refine(len64_w _ _ (by omega)).mono ?_;rintro e w' ⟨rfl,rfl⟩)|(go_at_call 148;refine(Ldexp_exact _ _ _ _ HSc.out).mono ?_;rintro e w' ⟨rfl,rfl⟩))
      go_ret2
      exact⟨ret_two HR.out,hB2.drew⟩
     ·have hge:-1074<=e+X:=by have h1:=KX.out;unfold cutN at h1;omega
      have HR:=Lib.hid (show TwoIs (rndG false (wn a b) true e true) (F.dy m (e+X)).b 0 from rnd_midfalse KX.out K0.out HL.out HM.out Z.out g);have HSc:=Lib.hid (Sc_dy m (e+X) (by omega) hge (by omega));have HC:=floatOfInt_dy m (by omega);have hne:=neg_dy m (e+X) (by omega) Z.out hge (by omega);have g':(blen m:Int)+(e+X)<=1024:=by omega
      clear g;generalize F.dy m 0=x0 at*;generalize F.dy m (e+X)=y0 at*
      go_wp2_with (first|(go_at_call 147;refine(len64_w _ _ (by omega)).mono ?_;rintro e w' ⟨rfl,rfl⟩)|(go_at_call 148;refine(Ldexp_exact _ _ _ _ HSc.out).mono ?_;rintro e w' ⟨rfl,rfl⟩))
      go_ret2
      exact⟨ret_two HR.out,hB2.drew⟩
   ·as_aux_lemma=>
    have HM:=Lib.hid (show mUp false more true true m0=m0+1 by rfl);have z':(((m0:Nat):Int)+1==0)=false:=by rw[beq_eq_false_iff_ne];omega
    go_wp2_with fail
    have Z:=Lib.hid (show m0+1≠0 by omega);have hbl:=blen_54 (m0+1) (by omega);have hm2:((m0+1:Nat):Int)<=9007199254740992:=by omega
    simp only[show((m0:Nat):Int)+1=((m0+1:Nat):Int)from by omega]at z' ⊢;generalize m0+1=m at*;by_cases g:1024<(blen m:Int)+(e+X)
    ·have HR:=Lib.hid (show TwoIs (rndG false (wn a b) more e true) 0 10 from rnd_overtruefalse KX.out K0.out HL.out HM.out Z.out g);have HSc:=Lib.hid max_Sc;have HC:=max_conv;have hne:=run_unary_neg_F F.max (by rw[F.max_k];omega);generalize F.max=y0 at*;generalize F.dy 9007199254740991 0=x0 at*
     go_wp2_with (first|(go_at_call 147;refine(len64_w _ _ (by omega)).mono ?_;rintro e w' ⟨rfl,rfl⟩)|(go_at_call 148;refine(Ldexp_exact _ _ _ _ HSc.out).mono ?_;rintro e w' ⟨rfl,rfl⟩))
     go_ret2
     exact⟨ret_two HR.out,hB2.drew⟩
    ·have hge:-1074<=e+X:=by have h1:=KX.out;unfold cutN at h1;omega
     have HR:=Lib.hid (show TwoIs (rndG false (wn a b) more e true) (F.dy m (e+X)).b 0 from rnd_midfalse KX.out K0.out HL.out HM.out Z.out g);have HSc:=Lib.hid (Sc_dy m (e+X) (by omega) hge (by omega));have HC:=floatOfInt_dy m (by omega);have hne:=neg_dy m (e+X) (by omega) Z.out hge (by omega);have g':(blen m:Int)+(e+X)<=1024:=by omega
     clear g;generalize F.dy m 0=x0 at*;generalize F.dy m (e+X)=y0 at*
     go_wp2_with (first|(go_at_call 147;refine(len64_w _ _ (by omega)).mono ?_;rintro e w' ⟨rfl,rfl⟩)|(go_at_call 148;refine(Ldexp_exact _ _ _ _ HSc.out).mono ?_;rintro e w' ⟨rfl,rfl⟩))
     go_ret2
     exact⟨ret_two HR.out,hB2.drew⟩
  ·exact absurd rfl hA
theorem rounded_n(minus more up:Bool)(n:Nat)(e:Int)(w:World)(hb2:(n:Int)<=18446744073709551615)(he1:-5000<=e)(he2:e<=5000) :
  Calls prog 156 #[.agg #[.bool minus,.int .u64 0,.int .u64 n,.bool more,.int .i64 e],.bool up] w fun q w'=>q= .returned (.tuple #[.float .f64 (rndG minus n more e up).1.b,.int .i64 (rndG minus n more e up).2])/\Below w.heap.size w w':=by
 have h:=rounded_w minus more up 0 n e w (by omega) (by omega) (by omega) hb2 he1 he2;have e1:wn 0 (n:Int)=n:=by unfold wn;simp
 rw[e1]at h;exact h
theorem nextF_pos{x:F}{minus:Bool}{n r:Nat}{e:Int}{up:Bool}(he:-1074<=e)(h:n*2^(e+1074).toNat=nv r)(hk:(if minus then -(r:Int)else r)=if up then x.k+1 else x.k-1) :
  rndG minus n false e up=nextF x up:=by
 rw[rndG_nv he h,hk];unfold nextF;cases up<;>rfl
set_option maxHeartbeats 1000000 in
theorem next_F(x:F)(up:Bool)(w:World) :
  Calls prog 83 #[.float .f64 x.b,.bool up] w fun q w'=>q= .returned (.tuple #[.float .f64 (nextF x up).1.b,.int .i64 (nextF x up).2])/\Below w.heap.size w w':=by
 have hpp:=fun w=>parts_F x w;have HP:=Lib.hid hpp;have hb:=man_pl x.k.natAbs;have hbp:=(b_parts x).2.2;have hP:P=4503599627370496:=rfl;have b1:((man x.k.natAbs:Nat):Int)<=9007199254740991:=by omega
 have b2:((pl x.k.natAbs:Nat):Int)<=2046:=by unfold pl;omega
 clear hpp hb hbp hP;by_cases h0:x.k=0
 ·have HN:=Lib.hid (show rndG (!up) 1 false (-1074) up=nextF x up from nextF_pos (r:=1) (by omega) (by decide) (by rw[h0];cases up<;>rfl));have hm:man x.k.natAbs=0:=by rw[h0];rfl
  have hl:pl x.k.natAbs=0:=by rw[h0];rfl
  have hsg:decide (x.k<0)=false:=by simp;omega
  rw[hm,hl,hsg]at HP;clear h0 hm hl hsg b1 b2;have HRR:=Lib.hid (fun w=>rounded_n (!up) false up 1 (-1074) w (by omega) (by omega) (by omega))
  go_enter Tryz.func83,Tryz.ntmps83
  go_wp2_with (first|(go_at_call 60;refine(right_F_w _ _).mono ?_;rintro e w' ⟨rfl,rfl⟩)|(go_at_call 154;refine(HP.out _).mono ?_;rintro e w' ⟨rfl,rfl⟩)|(go_at_call 156;refine(HRR.out _).mono ?_;rintro e w' ⟨rfl,hbb⟩))
  go_ret2
  refine⟨?_,hbb⟩;rw[<-HN.out];exact ret_tup rfl
 ·have hz:man x.k.natAbs≠0:=fun c=>h0 (by have:=man_zero _ c;omega);by_cases hs:x.k<0
  ·have hsg:decide (x.k<0)=true:=by simpa using hs
   rw[hsg]at HP;cases up
   ·have HN:=Lib.hid (show rndG true (man x.k.natAbs+1) false (pl x.k.natAbs-1074) false=nextF x false from nextF_pos (r:=x.k.natAbs+1) (by omega) (by rw[show((pl x.k.natAbs:Int)-1074+1074).toNat=pl x.k.natAbs from by omega];exact nv_up _) (by simp;omega));have hrr:=fun w=>rounded_n true false false (man x.k.natAbs+1) (pl x.k.natAbs-1074) w (by omega) (by omega) (by omega);simp only[Int.natCast_add,Int.cast_ofNat_Int]at hrr;have HRR:=Lib.hid hrr;have z:(((man x.k.natAbs:Nat):Int)==0)=false:=by rw[beq_eq_false_iff_ne];omega
    clear hrr hz h0 hsg;generalize man x.k.natAbs=m at*;generalize pl x.k.natAbs=p at*
    go_enter Tryz.func83,Tryz.ntmps83
    go_wp2_with (first|(go_at_call 60;refine(right_F_w _ _).mono ?_;rintro e w' ⟨rfl,rfl⟩)|(go_at_call 154;refine(HP.out _).mono ?_;rintro e w' ⟨rfl,rfl⟩)|(go_at_call 156;refine(HRR.out _).mono ?_;rintro e w' ⟨rfl,hbb⟩))
    go_ret2
    refine⟨?_,hbb⟩;rw[<-HN.out];exact ret_tup rfl
   ·have z:(((man x.k.natAbs:Nat):Int)==0)=false:=by rw[beq_eq_false_iff_ne];omega
    by_cases hc:man x.k.natAbs=P/\1<=pl x.k.natAbs
    ·have HN:=Lib.hid (show rndG true 9007199254740991 false (pl x.k.natAbs-1074-1) true=nextF x true from nextF_pos (r:=x.k.natAbs-1) (by omega) (by rw[show((pl x.k.natAbs:Int)-1074-1+1074).toNat=pl x.k.natAbs-1 from by omega];exact nv_dn2 _ hc.1 hc.2) (by simp;omega));have HRR:=Lib.hid (fun w=>rounded_n true false true 9007199254740991 (pl x.k.natAbs-1074-1) w (by omega) (by omega) (by omega));have hm:man x.k.natAbs=4503599627370496:=hc.1;have hp1:(-1074:Int)<(pl x.k.natAbs:Int)-1074:=by omega
     rw[hm]at HP;clear hz h0 hsg z hc hm b1;generalize pl x.k.natAbs=p at*
     go_enter Tryz.func83,Tryz.ntmps83
     go_wp2_with (first|(go_at_call 60;refine(right_F_w _ _).mono ?_;rintro e w' ⟨rfl,rfl⟩)|(go_at_call 154;refine(HP.out _).mono ?_;rintro e w' ⟨rfl,rfl⟩)|(go_at_call 156;refine(HRR.out _).mono ?_;rintro e w' ⟨rfl,hbb⟩))
     go_ret2
     refine⟨?_,hbb⟩;rw[<-HN.out];exact ret_tup rfl
    ·have HN:=Lib.hid (show rndG true (man x.k.natAbs-1) false (pl x.k.natAbs-1074) true=nextF x true from nextF_pos (r:=x.k.natAbs-1) (by omega) (by rw[show((pl x.k.natAbs:Int)-1074+1074).toNat=pl x.k.natAbs from by omega];exact nv_dn _ (by omega) hc) (by simp;omega));have hrr:=fun w=>rounded_n true false true (man x.k.natAbs-1) (pl x.k.natAbs-1074) w (by omega) (by omega) (by omega);rw[show((man x.k.natAbs-1:Nat):Int)=(man x.k.natAbs:Int)-1 from by omega]at hrr;have HRR:=Lib.hid hrr;have hm1:(1:Int)<=(man x.k.natAbs:Int):=by omega
     clear hrr;by_cases hq:man x.k.natAbs=P
     ·have q1:(((man x.k.natAbs:Nat):Int)==4503599627370496)=true:=by rw[beq_iff_eq,hq];rfl
      have q2:¬((-1074:Int)<(pl x.k.natAbs:Int)-1074):=by omega
      clear hz h0 hsg hc hq;generalize man x.k.natAbs=m at*;generalize pl x.k.natAbs=p at*
      go_enter Tryz.func83,Tryz.ntmps83
      go_wp2_with (first|(go_at_call 60;refine(right_F_w _ _).mono ?_;rintro e w' ⟨rfl,rfl⟩)|(go_at_call 154;refine(HP.out _).mono ?_;rintro e w' ⟨rfl,rfl⟩)|(go_at_call 156;refine(HRR.out _).mono ?_;rintro e w' ⟨rfl,hbb⟩))
      go_ret2
      refine⟨?_,hbb⟩;rw[<-HN.out];exact ret_tup rfl
     ·have q1:(((man x.k.natAbs:Nat):Int)==4503599627370496)=false:=by rw[beq_eq_false_iff_ne];intro c;exact hq (by have:P=4503599627370496:=rfl;omega)
      clear hz h0 hsg hc hq;generalize man x.k.natAbs=m at*;generalize pl x.k.natAbs=p at*
      go_enter Tryz.func83,Tryz.ntmps83
      go_wp2_with (first|(go_at_call 60;refine(right_F_w _ _).mono ?_;rintro e w' ⟨rfl,rfl⟩)|(go_at_call 154;refine(HP.out _).mono ?_;rintro e w' ⟨rfl,rfl⟩)|(go_at_call 156;refine(HRR.out _).mono ?_;rintro e w' ⟨rfl,hbb⟩))
      go_ret2
      refine⟨?_,hbb⟩;rw[<-HN.out];exact ret_tup rfl
  ·have hsg:decide (x.k<0)=false:=by simpa using hs
   rw[hsg]at HP;cases up
   ·have z:(((man x.k.natAbs:Nat):Int)==0)=false:=by rw[beq_eq_false_iff_ne];omega
    by_cases hc:man x.k.natAbs=P/\1<=pl x.k.natAbs
    ·have HN:=Lib.hid (show rndG false 9007199254740991 false (pl x.k.natAbs-1074-1) false=nextF x false from nextF_pos (r:=x.k.natAbs-1) (by omega) (by rw[show((pl x.k.natAbs:Int)-1074-1+1074).toNat=pl x.k.natAbs-1 from by omega];exact nv_dn2 _ hc.1 hc.2) (by simp;omega));have HRR:=Lib.hid (fun w=>rounded_n false false false 9007199254740991 (pl x.k.natAbs-1074-1) w (by omega) (by omega) (by omega));have hm:man x.k.natAbs=4503599627370496:=hc.1;have hp1:(-1074:Int)<(pl x.k.natAbs:Int)-1074:=by omega
     rw[hm]at HP;clear hz h0 hsg z hc hm b1;generalize pl x.k.natAbs=p at*
     go_enter Tryz.func83,Tryz.ntmps83
     go_wp2_with (first|(go_at_call 60;refine(right_F_w _ _).mono ?_;rintro e w' ⟨rfl,rfl⟩)|(go_at_call 154;refine(HP.out _).mono ?_;rintro e w' ⟨rfl,rfl⟩)|(go_at_call 156;refine(HRR.out _).mono ?_;rintro e w' ⟨rfl,hbb⟩))
     go_ret2
     refine⟨?_,hbb⟩;rw[<-HN.out];exact ret_tup rfl
    ·have HN:=Lib.hid (show rndG false (man x.k.natAbs-1) false (pl x.k.natAbs-1074) false=nextF x false from nextF_pos (r:=x.k.natAbs-1) (by omega) (by rw[show((pl x.k.natAbs:Int)-1074+1074).toNat=pl x.k.natAbs from by omega];exact nv_dn _ (by omega) hc) (by simp;omega));have hrr:=fun w=>rounded_n false false false (man x.k.natAbs-1) (pl x.k.natAbs-1074) w (by omega) (by omega) (by omega);rw[show((man x.k.natAbs-1:Nat):Int)=(man x.k.natAbs:Int)-1 from by omega]at hrr;have HRR:=Lib.hid hrr;have hm1:(1:Int)<=(man x.k.natAbs:Int):=by omega
     clear hrr;by_cases hq:man x.k.natAbs=P
     ·have q1:(((man x.k.natAbs:Nat):Int)==4503599627370496)=true:=by rw[beq_iff_eq,hq];rfl
      have q2:¬((-1074:Int)<(pl x.k.natAbs:Int)-1074):=by omega
      clear hz h0 hsg hc hq;generalize man x.k.natAbs=m at*;generalize pl x.k.natAbs=p at*
      go_enter Tryz.func83,Tryz.ntmps83
      go_wp2_with (first|(go_at_call 60;refine(right_F_w _ _).mono ?_;rintro e w' ⟨rfl,rfl⟩)|(go_at_call 154;refine(HP.out _).mono ?_;rintro e w' ⟨rfl,rfl⟩)|(go_at_call 156;refine(HRR.out _).mono ?_;rintro e w' ⟨rfl,hbb⟩))
      go_ret2
      refine⟨?_,hbb⟩;rw[<-HN.out];exact ret_tup rfl
     ·have q1:(((man x.k.natAbs:Nat):Int)==4503599627370496)=false:=by rw[beq_eq_false_iff_ne];intro c;exact hq (by have:P=4503599627370496:=rfl;omega)
      clear hz h0 hsg hc hq;generalize man x.k.natAbs=m at*;generalize pl x.k.natAbs=p at*
      go_enter Tryz.func83,Tryz.ntmps83
      go_wp2_with (first|(go_at_call 60;refine(right_F_w _ _).mono ?_;rintro e w' ⟨rfl,rfl⟩)|(go_at_call 154;refine(HP.out _).mono ?_;rintro e w' ⟨rfl,rfl⟩)|(go_at_call 156;refine(HRR.out _).mono ?_;rintro e w' ⟨rfl,hbb⟩))
      go_ret2
      refine⟨?_,hbb⟩;rw[<-HN.out];exact ret_tup rfl
   ·have HN:=Lib.hid (show rndG false (man x.k.natAbs+1) false (pl x.k.natAbs-1074) true=nextF x true from nextF_pos (r:=x.k.natAbs+1) (by omega) (by rw[show((pl x.k.natAbs:Int)-1074+1074).toNat=pl x.k.natAbs from by omega];exact nv_up _) (by simp;omega));have hrr:=fun w=>rounded_n false false true (man x.k.natAbs+1) (pl x.k.natAbs-1074) w (by omega) (by omega) (by omega);simp only[Int.natCast_add,Int.cast_ofNat_Int]at hrr;have HRR:=Lib.hid hrr;have z:(((man x.k.natAbs:Nat):Int)==0)=false:=by rw[beq_eq_false_iff_ne];omega
    clear hrr hz h0 hsg;generalize man x.k.natAbs=m at*;generalize pl x.k.natAbs=p at*
    go_enter Tryz.func83,Tryz.ntmps83
    go_wp2_with (first|(go_at_call 60;refine(right_F_w _ _).mono ?_;rintro e w' ⟨rfl,rfl⟩)|(go_at_call 154;refine(HP.out _).mono ?_;rintro e w' ⟨rfl,rfl⟩)|(go_at_call 156;refine(HRR.out _).mono ?_;rintro e w' ⟨rfl,hbb⟩))
    go_ret2
    refine⟨?_,hbb⟩;rw[<-HN.out];exact ret_tup rfl
end Go.Proofs.YtejcekikbnlllaaGreat
namespace Rx
open Go Bu
def oRight:List SV->Dec->Option (SV×Dec×Obs)
 | [.fl _],ds=>some (.b true,ds,[])
 | [.f w], ds => match takeB ds (rightB w) with
   |some (true,ds',ob)=>some (.b true,ds',ob)
   |some (false,ds',ob)=>some (.b false,ds',(Nat.blt w 18446744073709551616,true)::ob)
   |none=>none
 |_,_=>none
def ldF(x:F)(n:Int):F:=if 0<=n then F.of (flZ (x.z*((2^n.toNat:Nat):Int)))else F.of (flZ (x.z/((2^(-n).toNat:Nat):Int)))
instance (x y:F)(n:Int):Decidable (Sc x y n):=by unfold Sc;infer_instance
def oLdexp:List SV->Dec->Option (SV×Dec×Obs)
 | [.fl x, n], ds => match intS n with
   |some (.i64,k)=>some (.fl (ldF x k),ds,[(decide (Sc x (ldF x k) k),true)])
   |_=>none
 |_,_=>none
def oConst(x:SV):List SV->Dec->Option (SV×Dec×Obs)
 | [],ds=>some (x,ds,[])
 |_,_=>none
theorem zero_k':(toF 0).k=0:=by decide+kernel
def oFb:List SV->Option (SV×Obs)
 | [.f x]=>some (.si .u64 x,[])
 | [.fl x]=>some (.si .u64 x.b,[])
 |_=>none
def oFf:List SV->Option (SV×Obs)
 | [.si .u64 n]=>some (.f n.toNat,[])
 | [.i .u64 n]=>some (.f n.toNat,[])
 |_=>none
def u64B(n:Int):Bool:=decide (0<=n/\n<=18446744073709551615)
def oAdd64:List SV->Option (SV×Obs)
 | [x, y, z] => match intS x, intS y, intS z with
   |some (.u64,a),some (.u64,b),some (.u64,c)=>some (.tup [.si .u64 ((a+b+c)%18446744073709551616),.si .u64 ((a+b+c)/18446744073709551616)],[(decide (0<=a/\0<=b/\0<=c/\c<=1),true)])
   |_,_,_=>none
 |_=>none
def oSub64:List SV->Option (SV×Obs)
 | [x, y, z] => match intS x, intS y, intS z with
   |some (.u64,a),some (.u64,b),some (.u64,c)=>some (.tup [.si .u64 ((a-b-c)%18446744073709551616),.si .u64 (if a<b+c then 1 else 0)],[(decide (0<=a/\0<=b/\0<=c/\c<=1/\a<=18446744073709551615/\b<=18446744073709551615),true)])
   |_,_,_=>none
 |_=>none
end Rx
namespace Bu
theorem W128_q:W128=18446744073709551616*18446744073709551616:=by decide
theorem wn_same{m s:Nat}(h:m*18446744073709551616+s<W128):wn (((m:Int)+hi s+(0+lo s+0)/18446744073709551616)%18446744073709551616) ((0+lo s+0)%18446744073709551616)=m*18446744073709551616+s:=by rw[W128_q]at h;unfold wn hi lo;omega
theorem bor_yes{x y:Int}(h:x<y):(if x<y then(1:Int)else 0)=1:=if_pos h
theorem bor_no{x y:Int}(h:¬x<y):(if x<y then(1:Int)else 0)=0:=if_neg h
theorem wn_opp{m s:Nat}(h:m*18446744073709551616<W128)(hs:s<=m*18446744073709551616) :
  wn (((m:Int)-hi s-(if (0:Int)<lo s+0 then 1 else 0))%18446744073709551616) ((0-lo s-0)%18446744073709551616)=m*18446744073709551616-s:=by
 rw[W128_q]at h;by_cases c:(0:Int)<lo s+0
 ·rw[bor_yes c];unfold wn hi lo at*;omega
 ·rw[bor_no c];unfold wn hi lo at*;omega
theorem wn_one{h l:Int}{V:Nat}(h0:0<=h)(h1:h<18446744073709551616)(l0:0<=l)(l1:l<18446744073709551616)(hv:wn h l=V)(hp:1<=V) :
  wn ((h-0-(if l<1+0 then 1 else 0))%18446744073709551616) ((l-1-0)%18446744073709551616)=V-1:=by
 subst hv;obtain⟨a,rfl⟩:=Int.eq_ofNat_of_zero_le h0;obtain⟨b,rfl⟩:=Int.eq_ofNat_of_zero_le l0;unfold wn at hp ⊢;by_cases c:(b:Int)<1+0
 ·rw[bor_yes c];have e1:((b:Int)-1-0)%18446744073709551616=18446744073709551615:=by omega
  have e2:((a:Int)-0-1)%18446744073709551616=(a:Int)-1:=by omega
  rw[e1,e2];omega
 ·rw[bor_no c];have e1:((b:Int)-1-0)%18446744073709551616=(b:Int)-1:=by omega
  have e2:((a:Int)-0-0)%18446744073709551616=(a:Int):=by omega
  rw[e1,e2];omega
open Go Rx
def dI(a b:F):Int:=IntKind.i64.wrap (((ex a:Int)-1074)-((ex b:Int)-1074))
def sI(a b:F):Nat:=wn (mn b) 0/2^(dI a b).toNat
def eI(a:F):Int:=IntKind.i64.wrap (((ex a:Int)-1074)-64)
theorem wrap_small{n:Int}(h:-9223372036854775808<=n)(h2:n<9223372036854775808):IntKind.i64.wrap n=n:=by rw[IntKind.wrap_i64];omega
theorem eI_eq(a:F):eI a=(ex a:Int)-1074-64:=by have h1:=ex_le a;exact wrap_small (by omega) (by omega)
theorem dI_eq{a b:F}(hle:ex b<=ex a):dI a b=((ex a-ex b:Nat):Int):=by
 have h1:=ex_le a;have h2:=ex_le b;have:((ex a-ex b:Nat):Int)=((ex a:Int)-1074)-((ex b:Int)-1074):=by omega
 rw[this];exact wrap_small (by omega) (by omega)
theorem wn_zero(n:Nat):wn n 0=n*18446744073709551616:=by unfold wn;rw[tN,Int.toNat_zero,Nat.add_zero]
theorem sI_eq{a b:F}(hle:ex b<=ex a):sI a b=smallN (mn b) (ex a-ex b):=by unfold sI smallN;rw[dI_eq hle,wn_zero,tN]
theorem mI_eq{a b:F}(hle:ex b<=ex a):decide (wn (mn b) 0%2^(dI a b).toNat≠0)=moreN (mn b) (ex a-ex b):=by unfold moreN;rw[dI_eq hle,wn_zero,tN]
def mI(a b:F)(d:Bool):Obs:=[(u64B (mn b),true),(u64B 0,true),(decide (0<=dI a b),true),(decide (wn (mn b) 0%2^(dI a b).toNat≠0),d)]
def hS(a b:F):Int:=((mn a:Int)+hi (sI a b)+(0+lo (sI a b)+0)/18446744073709551616)%18446744073709551616
def lS(a b:F):Int:=(0+lo (sI a b)+0)%18446744073709551616
def hO(a b:F):Int:=((mn a:Int)-hi (sI a b)-(if (0:Int)<lo (sI a b)+0 then 1 else 0))%18446744073709551616
def lO(a b:F):Int:=(0-lo (sI a b)-0)%18446744073709551616
def hM(a b:F):Int:=(hO a b-0-(if lO a b<1+0 then 1 else 0))%18446744073709551616
def lM(a b:F):Int:=(lO a b-1-0)%18446744073709551616
def hA(same more:Bool)(a b:F):Int:=if same then hS a b else if more then hM a b else hO a b
def lA(same more:Bool)(a b:F):Int:=if same then lS a b else if more then lM a b else lO a b
def w1(a b:F):Obs:=[(u64B (mn a),true),(u64B 0,true),(u64B (hi (sI a b)),true),(u64B (lo (sI a b)),true)]
def w2(a b:F):Obs:=[(u64B (hO a b),true),(u64B (lO a b),true),(u64B 0,true),(u64B 1,true)]
def rd(h l e:Int):Obs:=[(u64B h,true),(u64B l,true),(decide (-5000<=e/\e<=5000),true)]
def wAll(same more:Bool)(a b:F):Obs:=if same then w1 a b else if more then w2 a b++w1 a b else w1 a b
def obA(same more:Bool)(a b:F):Obs:=rd (hA same more a b) (lA same more a b) (eI a)++wAll same more a b++mI a b more
theorem u64_mk{n:Int}(h0:0<=n)(h1:n<=18446744073709551615):u64B n=true:=dT ⟨h0,h1⟩
theorem mod_u64(n:Int):u64B (n%18446744073709551616)=true:=u64_mk (by omega) (by omega)
theorem hO_u(a b:F):u64B (hO a b)=true:=mod_u64 _
theorem lO_u(a b:F):u64B (lO a b)=true:=mod_u64 _
theorem hO_r(a b:F):0<=hO a b/\hO a b<18446744073709551616:=by unfold hO;omega
theorem lO_r(a b:F):0<=lO a b/\lO a b<18446744073709551616:=by unfold lO;omega
theorem hA_u(s m:Bool)(a b:F):u64B (hA s m a b)=true:=by
 unfold hA hS hM;split
 ·exact mod_u64 _
 ·split
  ·exact mod_u64 _
  ·exact hO_u a b
theorem lA_u(s m:Bool)(a b:F):u64B (lA s m a b)=true:=by
 unfold lA lS lM;split
 ·exact mod_u64 _
 ·split
  ·exact mod_u64 _
  ·exact lO_u a b
theorem mn_u64(x:F):u64B (mn x)=true:=u64_mk (by omega) (by have:=mn_lt x;omega)
theorem u64_0:u64B 0=true:=by decide
theorem u64_1:u64B 1=true:=by decide
theorem obsB_app(a b:Obs):obsB (a++b)=(obsB a&&obsB b):=List.all_append
theorem obsB_cons(c d:Bool)(r:Obs):obsB ((c,d)::r)=((c==d)&&obsB r):=rfl
theorem obsB_nil:obsB []=true:=rfl
theorem obsB_yes{c d:Bool}{r:Obs}(h:c=d)(hr:obsB r=true):obsB ((c,d)::r)=true:=by rw[obsB_cons,h,hr,Bool.and_true,beq_self_eq_true]
theorem hv_add{a b:F}(h:Fst a b):wn (hA (sg a==sg b) (moreN (mn b) (ex a-ex b)) a b) (lA (sg a==sg b) (moreN (mn b) (ex a-ex b)) a b)=addN (sg a==sg b) (mn a) (mn b) (ex a-ex b):=by
 have hle:ex b<=ex a:=by unfold Fst at h;omega
 have h5:=small_le (al_of h);have h6:=(wn_add true (al_of h)).2;have hO1:=hO_r a b;have lO1:=lO_r a b;have h7:smallN (mn b) (ex a-ex b)<=mn a*18446744073709551616:=Nat.le_trans (Nat.le_add_right _ _) h5;have h8:mn a*18446744073709551616<W128:=Nat.lt_of_le_of_lt (Nat.le_add_right _ _) h6;have hop:wn (hO a b) (lO a b)=mn a*18446744073709551616-smallN (mn b) (ex a-ex b):=by unfold hO lO;rw[sI_eq hle];exact wn_opp h8 h7
 unfold hA lA addN;cases (sg a==sg b)with
 | true =>
   rw[if_pos rfl,if_pos rfl,if_pos rfl];unfold hS lS;rw[sI_eq hle];exact wn_same h6
 | false =>
   rw[if_neg Bool.false_ne_true,if_neg Bool.false_ne_true,if_neg Bool.false_ne_true];cases hm:moreN (mn b) (ex a-ex b)with
   |false=>rw[if_neg Bool.false_ne_true,if_neg Bool.false_ne_true,if_neg Bool.false_ne_true,Nat.sub_zero];exact hop
   | true =>
     rw[hm,if_pos rfl]at h5;rw[if_pos rfl,if_pos rfl,if_pos rfl];exact wn_one hO1.1 hO1.2 lO1.1 lO1.2 hop (Nat.le_sub_of_add_le (by rw[Nat.add_comm];exact h5))
theorem add_val{a b:F}(up:Bool)(h:Fst a b) :
  rndG (sg a) (wn (hA (sg a==sg b) (moreN (mn b) (ex a-ex b)) a b) (lA (sg a==sg b) (moreN (mn b) (ex a-ex b)) a b)) (moreN (mn b) (ex a-ex b)) (eI a) up=dAdd up a b:=by
 rw[hv_add h,eI_eq,rndG_dAdd up h]
theorem er_ok(a:F):decide (-5000<=eI a/\eI a<=5000)=true:=by have h1:=ex_le a;have h2:=eI_eq a;exact dT (by omega)
theorem d0_ok{a b:F}(h:ex b<=ex a):decide (0<=dI a b)=true:=by have h2:=dI_eq h;exact dT (by omega)
theorem w1_ok{a b:F}(h:Fst a b):obsB (w1 a b)=true:=by
 have hle:ex b<=ex a:=by unfold Fst at h;omega
 have hs:u64B (hi (sI a b))=true:=by refine u64_mk (hi_nonneg _) (hi_le _ ?_);rw[sI_eq hle];exact Nat.lt_of_le_of_lt (Nat.le_add_left _ _) (wn_add true (al_of h)).2
 exact obsB_yes (mn_u64 a) (obsB_yes u64_0 (obsB_yes hs (obsB_yes (u64_mk (lo_nonneg _) (lo_le _)) obsB_nil)))
theorem w2_ok(a b:F):obsB (w2 a b)=true:=obsB_yes (hO_u a b) (obsB_yes (lO_u a b) (obsB_yes u64_0 (obsB_yes u64_1 obsB_nil)))
theorem mI_ok{a b:F}(hle:ex b<=ex a):obsB (mI a b (moreN (mn b) (ex a-ex b)))=true:=
 obsB_yes (mn_u64 b) (obsB_yes u64_0 (obsB_yes (d0_ok hle) (obsB_yes (mI_eq hle) obsB_nil)))
theorem rd_ok(s m:Bool)(a b:F):obsB (rd (hA s m a b) (lA s m a b) (eI a))=true:=obsB_yes (hA_u s m a b) (obsB_yes (lA_u s m a b) (obsB_yes (er_ok a) obsB_nil))
theorem wAll_ok{a b:F}(s m:Bool)(h:Fst a b):obsB (wAll s m a b)=true:=by
 unfold wAll;split
 ·exact w1_ok h
 ·split
  ·rw[obsB_app,w1_ok h,w2_ok];rfl
  ·exact w1_ok h
theorem obA_ok{a b:F}(same:Bool)(h:Fst a b):obsB (obA same (moreN (mn b) (ex a-ex b)) a b)=true:=by
 have hle:ex b<=ex a:=by unfold Fst at h;omega
 unfold obA;rw[obsB_app,obsB_app,rd_ok,wAll_ok _ _ h,mI_ok hle];rfl
end Bu
namespace Bu
open Rx Go
structure Kd where
 sg:F->Bool
 mn:F->Int
 ex:F->Int
 dh:Int->Int->Int->Int
 dl:Int->Int->Int->Int
 dm:Int->Int->Int->Bool
 dn:Int->Bool
 u:Int->Bool
 rF:Bool->Int->Int->Bool->Int->Bool->F
 rI:Bool->Int->Int->Bool->Int->Bool->Int
 re:Int->Bool
 ah:Int->Int->Int->Int->Int
 al:Int->Int->Int->Int->Int
 sh:Int->Int->Int->Int->Int
 sl:Int->Int->Int->Int->Int
def kParts(K:Kd):List SV->Dec->Option (SV×Dec×Obs)
 | [.fl x],ds=>(takeB ds (K.sg x)).map fun r=>(.tup [.b r.1,.si .u64 (K.mn x),.si .i64 (K.ex x)],r.2.1,r.2.2)
 |_,_=>none
def kDown(K:Kd):List SV->Dec->Option (SV×Dec×Obs)
 | [.agg [x, y], z], ds => match intS x, intS y, intS z with
   | some (.u64, a), some (.u64, b), some (.i64, n) => (takeB ds (K.dm a b n)).map fun r =>
     (.tup [.agg [.si .u64 (K.dh a b n),.si .u64 (K.dl a b n)],.b r.1],r.2.1,(K.u a,true)::(K.u b,true)::(K.dn n,true)::r.2.2)
   |_,_,_=>none
 |_,_=>none
def kRound(K:Kd):List SV->Dec->Option (SV×Dec×Obs)
 | [.agg [.b minus, x, y, .b more, z], .b up], ds => match intS x, intS y, intS z with
   |some (.u64,a),some (.u64,b),some (.i64,e)=>some (.tup [.fl (K.rF minus a b more e up),.si .i64 (K.rI minus a b more e up)],ds,[(K.u a,true),(K.u b,true),(K.re e,true)])
   |_,_,_=>none
 |_,_=>none
def kWadd(K:Kd):List SV->Dec->Option (SV×Dec×Obs)
 | [.agg [x, y], .agg [z, t]], ds => match intS x, intS y, intS z, intS t with
   |some (.u64,a),some (.u64,b),some (.u64,c),some (.u64,d)=>some (.agg [.si .u64 (K.ah a b c d),.si .u64 (K.al a b c d)],ds,[(K.u a,true),(K.u b,true),(K.u c,true),(K.u d,true)])
   |_,_,_,_=>none
 |_,_=>none
def kWsub(K:Kd):List SV->Dec->Option (SV×Dec×Obs)
 | [.agg [x, y], .agg [z, t]], ds => match intS x, intS y, intS z, intS t with
   |some (.u64,a),some (.u64,b),some (.u64,c),some (.u64,d)=>some (.agg [.si .u64 (K.sh a b c d),.si .u64 (K.sl a b c d)],ds,[(K.u a,true),(K.u b,true),(K.u c,true),(K.u d,true)])
   |_,_,_,_=>none
 |_,_=>none
def KR:Kd where
 sg:=sg
 mn:=fun x=>(mn x:Int)
 ex:=fun x=>(ex x:Int)-1074
 dh:=fun a b n=>hi (wn a b/2^n.toNat)
 dl:=fun a b n=>lo (wn a b/2^n.toNat)
 dm:=fun a b n=>decide (wn a b%2^n.toNat≠0)
 dn:=fun n=>decide (0<=n)
 u:=u64B
 rF:=fun minus a b more e up=>(rndG minus (wn a b) more e up).1
 rI:=fun minus a b more e up=>(rndG minus (wn a b) more e up).2
 re:=fun e=>decide (-5000<=e/\e<=5000)
 ah:=fun a b c d=>(a+c+(b+d+0)/18446744073709551616)%18446744073709551616
 al:=fun _ b _ d=>(b+d+0)%18446744073709551616
 sh:=fun a b c d=>(a-c-(if b<d+0 then 1 else 0))%18446744073709551616
 sl:=fun _ b _ d=>(b-d-0)%18446744073709551616
def dK(K:Kd)(a b:F):Int:=IntKind.i64.wrap (K.ex a-K.ex b)
def eK(K:Kd)(a:F):Int:=IntKind.i64.wrap (K.ex a-64)
def sH(K:Kd)(a b:F):Int:=K.dh (K.mn b) 0 (dK K a b)
def sL(K:Kd)(a b:F):Int:=K.dl (K.mn b) 0 (dK K a b)
def mK(K:Kd)(a b:F)(d:Bool):Obs:=[(K.u (K.mn b),true),(K.u 0,true),(K.dn (dK K a b),true),(K.dm (K.mn b) 0 (dK K a b),d)]
def oH(K:Kd)(a b:F):Int:=K.sh (K.mn a) 0 (sH K a b) (sL K a b)
def oL(K:Kd)(a b:F):Int:=K.sl (K.mn a) 0 (sH K a b) (sL K a b)
def hK(K:Kd)(same more:Bool)(a b:F):Int:=if same then K.ah (K.mn a) 0 (sH K a b) (sL K a b)else if more then K.sh (oH K a b) (oL K a b) 0 1 else oH K a b
def lK(K:Kd)(same more:Bool)(a b:F):Int:=if same then K.al (K.mn a) 0 (sH K a b) (sL K a b)else if more then K.sl (oH K a b) (oL K a b) 0 1 else oL K a b
def w1K(K:Kd)(a b:F):Obs:=[(K.u (K.mn a),true),(K.u 0,true),(K.u (sH K a b),true),(K.u (sL K a b),true)]
def w2K(K:Kd)(a b:F):Obs:=[(K.u (oH K a b),true),(K.u (oL K a b),true),(K.u 0,true),(K.u 1,true)]
def rdK(K:Kd)(h l e:Int):Obs:=[(K.u h,true),(K.u l,true),(K.re e,true)]
def wAllK(K:Kd)(same more:Bool)(a b:F):Obs:=if same then w1K K a b else if more then w2K K a b++w1K K a b else w1K K a b
def obK(K:Kd)(same more:Bool)(a b:F):Obs:=rdK K (hK K same more a b) (lK K same more a b) (eK K a)++wAllK K same more a b++mK K a b more
theorem obK_R(s m:Bool)(a b:F):obK KR s m a b=obA s m a b:=rfl
end Bu
namespace Bu
open Ieee
def nlz(m:Nat):Nat:=64-blen m
theorem nlz_le(m:Nat):nlz m<=64:=by unfold nlz;omega
theorem norm_bounds{m:Nat}(h0:m≠0)(h:m<18446744073709551616):9223372036854775808<=m*2^nlz m/\m*2^nlz m<18446744073709551616:=by
 have hl:blen m=m.log2+1:=by unfold blen;rw[if_neg h0]
 have h1:=Nat.log2_self_le h0;have h2:m<2^(m.log2+1):=Nat.lt_log2_self;have h3:m.log2<64:=(Nat.log2_lt h0).2 (by have:(2:Nat)^64=18446744073709551616:=rfl;omega);have e63:(9223372036854775808:Nat)=2^63:=by decide
 have e64:(18446744073709551616:Nat)=2^64:=by decide
 unfold nlz;rw[hl,e63,e64];have p:(2:Nat)^m.log2*2^(64-(m.log2+1))=2^63:=by rw[<-Nat.pow_add];congr 1;omega
 have q:(2:Nat)^(m.log2+1)*2^(64-(m.log2+1))=2^64:=by rw[<-Nat.pow_add];congr 1;omega
 constructor
 ·rw[<-p];exact Nat.mul_le_mul_right _ h1
 ·rw[<-q];exact Nat.mul_lt_mul_of_pos_right h2 (pow_pos' _)
theorem mn_pos{x:F}(h:x.k≠0):mn x≠0:=by intro c;have:=man_zero _ c;omega
theorem mn_64(x:F):mn x<18446744073709551616:=by have:=mn_lt x;omega
def divM(x:F):Nat:=mn x*2^nlz (mn x)
def divE(a b:F):Int:=(ex a:Int)-1074-nlz (mn a)-((ex b:Int)-1074-nlz (mn b))-63
theorem rndG_div(up:Bool)(a b:F)(ha:a.k≠0)(hb:b.k≠0) :
  rndG (sg a != sg b) (divM a*9223372036854775808/divM b) (decide (0<divM a*9223372036854775808%divM b)) (divE a b) up=dDiv up a b:=by
 have nb:=norm_bounds (mn_pos hb) (mn_64 b);have na:=norm_bounds (mn_pos ha) (mn_64 a);obtain⟨X,hX⟩:∃X,divM a*9223372036854775808/divM b=X:=⟨_,rfl⟩;obtain⟨R,hR⟩:∃R,divM a*9223372036854775808%divM b=R:=⟨_,rfl⟩;have hdm:divM b*X+R=divM a*9223372036854775808:=by rw[<-hX,<-hR];exact Nat.div_add_mod _ _
 have hbp:0<divM b:=by unfold divM;omega
 have hRl:R<divM b:=by rw[<-hR];exact Nat.mod_lt _ hbp
 have hXl:4611686018427387904<=X:=by rw[<-hX,Nat.le_div_iff_mul_le hbp];unfold divM;generalize mn a*2^nlz (mn a)=M at*;generalize mn b*2^nlz (mn b)=N at*;omega
 rw[hX,hR];unfold dDiv;have hzb:b.z.natAbs=mn b*2^ex b:=by rw[z_parts b];split<;>omega
 have hz:(if b.k<0 then -(a.z*S)else a.z*S)=if (sg a != sg b)=true then -((mn a*2^ex a*S:Nat):Int)else((mn a*2^ex a*S:Nat):Int):=by
  rw[z_parts a,Int.natCast_mul _ S];generalize ((mn a*2^ex a:Nat):Int)=A;by_cases c:b.k<0
  ·have hs:sg b=true:=by unfold sg;exact dT c
   rw[if_pos c,hs];cases sg a<;>simp[Int.neg_mul]
  ·have hs:sg b=false:=by unfold sg;exact dF c
   rw[if_neg c,hs];cases sg a<;>simp[Int.neg_mul]
 rw[hz,hzb];obtain⟨s,hs,hS⟩:=S_pow;rw[hS];obtain⟨p,hp⟩:∃p,(divE a b+1074).toNat=p:=⟨_,rfl⟩;obtain⟨q,hq⟩:∃q,(-(divE a b+1074)).toNat=q:=⟨_,rfl⟩;have hpq:p+ex b+nlz (mn a)+63=ex a+s+q+nlz (mn b):=by unfold divE at hp hq;omega
 obtain⟨T,hT⟩:∃T,ex a+s+q+nlz (mn b)=T:=⟨_,rfl⟩;obtain⟨U,hU⟩:∃U,nlz (mn a)+nlz (mn b)+63=U:=⟨_,rfl⟩;have key1:∀x:Nat,x*2^p*(mn b*2^ex b)*2^U=(divM b*x)*2^T:=by
  intro x;have e:U+p+ex b=nlz (mn b)+T:=by omega
  have:(2:Nat)^U*2^p*2^ex b=2^nlz (mn b)*2^T:=by rw[<-Nat.pow_add,<-Nat.pow_add,e,Nat.pow_add]
  unfold divM
  calc x*2^p*(mn b*2^ex b)*2^U=x*mn b*(2^U*2^p*2^ex b):=by ac_rfl
   _=x*mn b*(2^nlz (mn b)*2^T):=by rw[this]
   _=mn b*2^nlz (mn b)*x*2^T:=by ac_rfl
 have key2:mn a*2^ex a*2^s*2^q*2^U=(divM a*9223372036854775808)*2^T:=by
  have e:ex a+s+q+U=nlz (mn a)+63+T:=by omega
  have e63:(9223372036854775808:Nat)=2^63:=by decide
  unfold divM;rw[e63];have:(2:Nat)^ex a*2^s*2^q*2^U=2^nlz (mn a)*2^63*2^T:=by rw[<-Nat.pow_add,<-Nat.pow_add,<-Nat.pow_add,e,Nat.pow_add,Nat.pow_add]
  calc mn a*2^ex a*2^s*2^q*2^U=mn a*(2^ex a*2^s*2^q*2^U):=by ac_rfl
   _=mn a*(2^nlz (mn a)*2^63*2^T):=by rw[this]
   _=mn a*2^nlz (mn a)*2^63*2^T:=by ac_rfl
 have hle:∀x:Nat,x*2^p*(mn b*2^ex b)<=mn a*2^ex a*2^s*2^q↔divM b*x<=divM a*9223372036854775808:=by intro x;rw[<-Nat.mul_le_mul_right_iff (pow_pos' U),key1,key2,Nat.mul_le_mul_right_iff (pow_pos' T)]
 have hge:∀x:Nat,mn a*2^ex a*2^s*2^q<=x*2^p*(mn b*2^ex b)↔divM a*9223372036854775808<=divM b*x:=by intro x;rw[<-Nat.mul_le_mul_right_iff (pow_pos' U),key1,key2,Nat.mul_le_mul_right_iff (pow_pos' T)]
 clear key1 key2;have hmn:mn b≠0:=mn_pos hb;refine rndG_eq_rndR (Nat.mul_pos (by omega) (pow_pos' _)) ?_ ?_ ?_ ?_
 ·rw[hp,hq];exact(hle X).2 (by omega)
 ·rw[hp,hq];have:¬((X+1)*2^p*(mn b*2^ex b)<=mn a*2^ex a*2^s*2^q):=by rw[hle,Nat.mul_add];omega
  omega
 ·rw[hp,hq];have h1:=hle X;have h2:=hge X;simp only[decide_eq_true_eq];constructor
  ·intro h0 he;have:=h2.1 (Nat.le_of_eq he);omega
  ·intro h0;rcases Nat.eq_zero_or_pos R with c|c
   ·exfalso
    apply h0;exact Nat.le_antisymm (h2.2 (by omega)) (h1.2 (by omega))
   ·exact c
 ·intro _
  have : (2:Nat) ^ 62 ≤ X := by have : (2:Nat) ^ 62 = 4611686018427387904 := by decide
                                omega
  have:=blen_ge this;omega
theorem divM_eq(M:Nat):M/2*18446744073709551616+M*9223372036854775808%18446744073709551616=M*9223372036854775808:=by omega
theorem blen_mn(x:F):blen (mn x)<=53:=by
 refine blen_le ?_;have h:=mn_lt x;have e:(2:Nat)^53=9007199254740992:=by decide
 omega
theorem rndR_zero(up:Bool){B:Nat}:rndR up 0 B=(F.zero,0):=by
 have e0:flI 0 B=0:=by unfold flI;rw[if_pos (Int.le_refl 0),Int.toNat_zero,flQ_zero];rfl
 have e1:ceI 0 B=0:=by unfold ceI;rw[Int.neg_zero,e0,Int.neg_zero]
 unfold rndR;rw[e0,e1];cases up<;>decide+kernel
theorem dDiv_zero(up:Bool)(a b:F)(h:a.k=0):dDiv up a b=(F.zero,0):=by have hz:a.z=0:=(z_zero a).2 h;unfold dDiv;rw[hz,Int.zero_mul,Int.neg_zero,ite_self,rndR_zero]
structure IsRoot (n x:Nat):Prop where
 le:x*x<=n
 lt:n<(x+1)*(x+1)
structure RootAt (n k x:Nat):Prop where
 dvd:∃a,x=a*2^k/\x+2^k<=18446744073709551616
 le:x*x<=n
 lt:n<(x+2^k)*(x+2^k)
theorem RootAt.start{n:Nat}(h:n<W128):RootAt n 64 0:=by
 refine⟨⟨0,by simp,by decide⟩,by simp,?_⟩;have e:(0+2^64)*(0+2^64)=W128:=by decide
 rw[e];exact h
theorem RootAt.yes{n k x:Nat}(h:RootAt n (k+1) x)(hx:(x+2^k)*(x+2^k)<=n):RootAt n k (x+2^k):=by
 obtain⟨⟨a,h1,h2⟩,h3,h4⟩:=h;have e:(2:Nat)^(k+1)=2^k+2^k:=by rw[Nat.pow_succ];omega
 rw[e]at h1 h2 h4;refine⟨⟨2*a+1,?_,by omega⟩,hx,?_⟩
 ·rw[h1,<-Nat.two_mul,Nat.add_mul,Nat.one_mul];ac_rfl
 ·rw[Nat.add_assoc];exact h4
theorem RootAt.no{n k x:Nat}(h:RootAt n (k+1) x)(hx:¬(x+2^k)*(x+2^k)<=n):RootAt n k x:=by
 obtain⟨⟨a,h1,h2⟩,h3,h4⟩:=h;have e:(2:Nat)^(k+1)=2^k+2^k:=by rw[Nat.pow_succ];omega
 rw[e]at h1 h2 h4;have hp:=pow_pos' k;refine⟨⟨2*a,?_,?_⟩,h3,Nat.not_le.1 hx⟩
 ·rw[h1,<-Nat.two_mul];ac_rfl
 ·omega
theorem RootAt.done{n x:Nat}(h:RootAt n 0 x):IsRoot n x:=⟨h.le,by have:=h.lt;simpa using this⟩
def rootB(n:Nat):Nat->Nat->Nat
 |0,x=>x
 |k+1,x=>if (x+2^k)*(x+2^k)<=n then rootB n k (x+2^k)else rootB n k x
theorem rootB_ok{n:Nat}:∀(k x:Nat),RootAt n k x->IsRoot n (rootB n k x)
 |0,_,h=>h.done
 | k + 1, x, h => by
   unfold rootB;split
   ·rename_i c;exact rootB_ok k _ (h.yes c)
   ·rename_i c;exact rootB_ok k _ (h.no c)
def root64(n:Nat):Nat:=rootB n 64 0
theorem root64_ok{n:Nat}(h:n<W128):IsRoot n (root64 n):=rootB_ok 64 0 (RootAt.start h)
def sqO(a:F):Bool:=decide (((ex a:Int)-1074-nlz (mn a)-64)%2≠0)
def sqN(a:F):Nat:=if sqO a then divM a*9223372036854775808 else divM a*18446744073709551616
def sqE(a:F):Int:=if sqO a then(ex a:Int)-1074-nlz (mn a)-63 else(ex a:Int)-1074-nlz (mn a)-64
theorem sqE_even(a:F):sqE a%2=0:=by unfold sqE sqO;split<;>rename_i c<;>simp at c<;>omega
def dSqrt(up:Bool)(a:F):F×Int:=rndG false (root64 (sqN a)) (decide (root64 (sqN a)*root64 (sqN a)≠sqN a)) (sqE a/2) up
end Bu
