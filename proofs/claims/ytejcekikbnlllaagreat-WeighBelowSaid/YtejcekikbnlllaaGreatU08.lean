/- Draws: the plain part. Roots, rounded: by squares. Draws by the cosine, plain. Draws by .. -/
import Derived.Test.YtejcekikbnlllaaGreatU07
set_option linter.all false
set_option maxRecDepth 100000
open Go.Proofs.Tryz(prog)
namespace Bu
structure Iv where
 lo:F
 hi:F
theorem Iv.ext'{a b:Iv}(h1:a.lo=b.lo)(h2:a.hi=b.hi):a=b:=by cases a;cases b;simp only at h1 h2;subst h1 h2;rfl
instance:DecidableEq Iv:=fun a b=>if h:a.lo=b.lo/\a.hi=b.hi then isTrue (Iv.ext' h.1 h.2)else isFalse (fun e=>h (by rw[e];exact⟨rfl,rfl⟩))
def Q64:Nat:=2^1010
theorem Q64_eq:Q64=2^1010:=by unfold Q64;rfl
theorem S_Q64:S=18446744073709551616*Q64:=by obtain⟨s,hs,e⟩:=S_pow;have h:∃t:Nat,t=1010/\Q64=2^t:=⟨1010,rfl,Q64_eq⟩;obtain⟨t,ht,e2⟩:=h;rw[e,e2,show s=64+t from by omega,Nat.pow_add]
theorem Q64_pow:∃t:Nat,t=1010/\Q64=2^t:=⟨1010,rfl,Q64_eq⟩
theorem Q64_pos:0<Q64:=by obtain⟨t,_,e⟩:=Q64_pow;rw[e];exact Nat.two_pow_pos t
attribute [irreducible] Q64
def unitCut(u:Nat):Nat:=blen u-53
def unitLo(u:Nat):F:=F.dy (u/2^unitCut u) ((unitCut u:Int)-64)
def unitOf(u:Nat):Iv:=⟨unitLo u,if u%2^unitCut u=0 then unitLo u else(nextF (unitLo u) true).1⟩
theorem unit_m(u:Nat)(hu:u<18446744073709551616):unitCut u<=11/\u/2^unitCut u<2*P/\(unitCut u=0\/P<=u/2^unitCut u):=by
 have h1:blen u<=64:=blen_le hu;have h2:=lt_blen u;have hP:P=2^52:=P_eq;refine⟨by unfold unitCut;omega,?_,?_⟩
 ·rw[Nat.div_lt_iff_lt_mul (Nat.two_pow_pos _),show 2*P=2^53 from rfl,<-Nat.pow_add];exact Nat.lt_of_lt_of_le h2 (Nat.pow_le_pow_right (by omega) (by unfold unitCut;omega))
 ·by_cases c:unitCut u=0
  ·exact Or.inl c
  ·right;have h0:u≠0:=by intro e;subst e;exact c (by decide)
   have e1:blen u=u.log2+1:=by unfold blen;rw[if_neg h0]
   rw[hP,Nat.le_div_iff_mul_le (Nat.two_pow_pos _),<-Nat.pow_add];exact Nat.le_trans (Nat.pow_le_pow_right (by omega) (by unfold unitCut at*;omega)) (Nat.log2_self_le h0)
theorem blen_m{m:Nat}(h:m<2*P):blen m<=53:=blen_le (by rw[show(2:Nat)^53=2*P from rfl];exact h)
theorem unitLo_z(u:Nat)(hu:u<18446744073709551616):(unitLo u).z=((u/2^unitCut u*2^unitCut u*Q64:Nat):Int):=by obtain⟨h1,h2,h3⟩:=unit_m u hu;have h4:=blen_m h2;unfold unitLo;rw[dy_z (by omega) (by omega) (by omega)];obtain⟨t,ht,e⟩:=Q64_pow;rw[e,Nat.mul_assoc,<-Nat.pow_add,show((unitCut u:Int)-64+1074).toNat=unitCut u+t from by omega]
theorem unitLo_k(u:Nat)(hu:u<18446744073709551616):(unitLo u).k=flI ((u*Q64:Nat):Int) 1:=by
 obtain⟨h1,h2,h3⟩:=unit_m u hu;have h4:=blen_m h2;have hd:=Nat.div_add_mod u (2^unitCut u);have hm:=Nat.mod_lt u (Nat.two_pow_pos (unitCut u));unfold unitLo;rw[dy_k (by omega) (by omega)];unfold flI;rw[if_pos (by omega),tN];obtain⟨t,ht,e⟩:=Q64_pow;rw[e,show((unitCut u:Int)-64+1074).toNat=unitCut u+t from by omega];refine congrArg (Nat.cast:Nat->Int) ?_;generalize unitCut u=c at*;generalize u/2^c=m at*;generalize u%2^c=r at*
 symm
 have ht0:=Nat.two_pow_pos t;by_cases hc:c=0
 ·subst hc;unfold flQ;rw[Nat.pow_zero]at hm hd;rw[Nat.div_one,Nat.zero_add,show u=m from by omega]
 ·have hn:P<=m:=by omega
  have n1:=nv_mk (c+t) m (by omega) (Or.inr hn);have n2:=nv_mk (c+t) (m+1) (by omega) (by omega);have f1:fl (m*2^(c+t))=(c+t)*P+m:=by rw[<-n1,fl_nv]
  rw[f1];refine flQ_eq (by omega) ?_ ?_
  ·rw[n1,Nat.pow_add,<-hd,Nat.mul_one,<-Nat.mul_assoc,Nat.mul_comm m];exact Nat.mul_le_mul_right _ (by omega)
  ·rw[Nat.add_assoc,n2,Nat.pow_add,<-hd,Nat.mul_one,<-Nat.mul_assoc];exact Nat.mul_lt_mul_of_pos_right (by rw[Nat.add_mul,Nat.mul_comm];omega) ht0
theorem unit_exact(u:Nat)(hu:u<18446744073709551616):u%2^unitCut u=0↔nvZ (unitLo u).k=((u*Q64:Nat):Int):=by
 have h:=unitLo_z u hu;unfold F.z at h;rw[h];have hd:=Nat.div_add_mod u (2^unitCut u);have hQ:=Q64_pos;rw[Nat.mul_comm]at hd;generalize u/2^unitCut u*2^unitCut u=a at*;generalize u%2^unitCut u=r at*;constructor
 ·intro e;rw[e,Nat.add_zero]at hd;rw[hd]
 ·intro e;have e2:a*Q64=u*Q64:=by omega
  have:=Nat.eq_of_mul_eq_mul_right hQ e2;omega
theorem one_k:∃one:F,one.z=S/\one.k=4607182418800017408:=⟨F.of 4607182418800017408,by decide+kernel,by decide+kernel⟩
theorem unitLo_lt(u:Nat)(hu:u<18446744073709551616):(unitLo u).k<4607182418800017408:=by obtain⟨one,h1,h2⟩:=one_k;have h:=unitLo_z u hu;rw[<-h2,<-F.z_lt,h,h1,S_Q64];have hd:=Nat.div_mul_le_self u (2^unitCut u);have:=Nat.mul_lt_mul_of_pos_right (show u/2^unitCut u*2^unitCut u<18446744073709551616 by omega) Q64_pos;omega
theorem nextF_up(x:F)(h:x.k<4607182418800017408):(nextF x true).1.k=x.k+1/\(nextF x true).2=0:=by have hT:=T_num;have hx:=x.hk;unfold nextF outUp;rw[if_pos rfl,if_neg (by omega)];simp only;rw[F.of_k (by omega)];exact⟨by omega,trivial⟩
theorem unitHi_k(u:Nat)(hu:u<18446744073709551616):(unitOf u).hi.k=ceI ((u*Q64:Nat):Int) 1:=by
 have h1:=unitLo_k u hu;have h2:=unit_exact u hu;have h3:=unitLo_lt u hu;unfold unitOf;simp only;by_cases c:u%2^unitCut u=0
 ·rw[if_pos c,<-h2.1 c,ceI_nvZ]
 ·rw[if_neg c,(nextF_up _ h3).1];have a:=(le_flI (k:=(unitLo u).k+1) (A:=((u*Q64:Nat):Int)) (B:=1) (by omega));have b:=(le_flI (k:=(unitLo u).k) (A:=((u*Q64:Nat):Int)) (B:=1) (by omega)).1 (by omega);have c1:=(ceI_le (k:=(unitLo u).k+1) (A:=((u*Q64:Nat):Int)) (B:=1) (by omega));have c2:=(ceI_le (k:=(unitLo u).k) (A:=((u*Q64:Nat):Int)) (B:=1) (by omega));have h4:nvZ (unitLo u).k≠((u*Q64:Nat):Int):=fun e=>c (h2.2 e);omega
theorem unitHi_le(u:Nat)(hu:u<18446744073709551616):(unitOf u).hi.k<=4607182418800017408:=by obtain⟨one,h1,h2⟩:=one_k;rw[unitHi_k u hu,ceI_le (by omega),<-h2];show _<=one.z*_;rw[h1,S_Q64];have:=Nat.mul_le_mul_right Q64 (show u<=18446744073709551616 by omega);omega
theorem unitLo_nonneg(u:Nat)(hu:u<18446744073709551616):0<=(unitLo u).k:=by rw[unitLo_k u hu,le_flI (by omega),nvZ_zero];omega
end Bu
namespace Bu
open Rx
def qSqrt(up:Bool)(a:F):F×Int:=if a.k<0 then(F.zero,12)else if a.k=0 then(F.zero,0)else dSqrt up a
theorem natq_pos{n:Nat}(h:0<n):(0:Rat)<(n:Rat):=by have:=Rat.natCast_lt_natCast.2 h;simpa using this
theorem natq_nn(n:Nat):(0:Rat)<=(n:Rat):=by have:=Rat.natCast_le_natCast.2 (Nat.zero_le n);simpa using this
structure SqP (a:F) (x:Nat) (p q:Nat):Prop where
 root:IsRoot (sqN a) x
 big:9223372036854775808<=x
 hp:(sqE a/2+1074).toNat=p
 hq:(-(sqE a/2+1074)).toNat=q
 val:sqN a*2^(2*p)=mn a*2^ex a*2^(2*q)*2^1074
theorem mn_pos'{a:F}(h:0<a.k):mn a≠0:=by
 intro h0;have:=z_parts a;rw[h0,Nat.zero_mul,show sg a=false from dF (by omega)]at this;have h1:a.z=0:=by simpa using this
 have:=(z_zero a).1 h1;omega
theorem sqP{a:F}(h:0<a.k):∃x p q,SqP a x p q/\root64 (sqN a)=x:=by
 have hm:=mn_pos' h;have nb:=norm_bounds hm (by have:=mn_lt a;omega);have hN:85070591730234615865843651857942052864<=sqN a/\sqN a<W128:=by have:W128=340282366920938463463374607431768211456:=rfl;unfold sqN divM;generalize mn a*2^nlz (mn a)=M at*;split<;>omega
 have hr:=root64_ok hN.2;refine⟨_,_,_,⟨hr,?_,rfl,rfl,?_⟩,rfl⟩
 ·rcases Nat.lt_or_ge (root64 (sqN a)) 9223372036854775808 with c|c
  ·exfalso
   have h1:=hr.lt;have h2:=Nat.mul_le_mul (show root64 (sqN a)+1<=9223372036854775808 from c) (show root64 (sqN a)+1<=9223372036854775808 from c);omega
  ·exact c
 ·have he:=sqE_even a;unfold sqN divM;unfold sqE at he ⊢;split
  ·rename_i ho;rw[if_pos ho]at he;rw[show(9223372036854775808:Nat)=2^63 from rfl];simp only[Nat.mul_assoc,<-Nat.pow_add];congr 2;omega
  ·rename_i ho;rw[if_neg ho]at he;rw[show(18446744073709551616:Nat)=2^64 from rfl];simp only[Nat.mul_assoc,<-Nat.pow_add];congr 2;omega
theorem blen_63{x:Nat}(h:9223372036854775808<=x):53<=blen x:=by have:=blen_ge (n:=x) (k:=63) (by have e:(2:Nat)^63=9223372036854775808:=rfl;omega);omega
theorem dSqrt_mid{a:F}{x p q:Nat}(h:SqP a x p q)(hx:root64 (sqN a)=x)(up:Bool)(hne:x*x≠sqN a)(n d:Nat)(h0:0<n)(h1:n<d):dSqrt up a=rndR up (((x*d+n)*2^p:Nat):Int) (d*2^q):=by
 have hq:=pow_pos' q;have hp:=pow_pos' p;unfold dSqrt;rw[hx,dT hne];have e1:x*2^p*(d*2^q)=x*d*(2^p*2^q):=by ac_rfl
 have e2:(x*d+n)*2^p*2^q=(x*d+n)*(2^p*2^q):=by ac_rfl
 have e3:(x+1)*2^p*(d*2^q)=(x+1)*d*(2^p*2^q):=by ac_rfl
 have hpq:0<2^p*2^q:=Nat.mul_pos hp hq;have lt1:x*d<x*d+n:=by omega
 have lt2:x*d+n<(x+1)*d:=by rw[Nat.add_mul];omega
 refine rndG_eq_rndR (Nat.mul_pos (by omega) hq) ?_ ?_ ?_ (fun _=>blen_63 h.big)
 ·rw[h.hp,h.hq,e1,e2];exact Nat.mul_le_mul_right _ (Nat.le_of_lt lt1)
 ·rw[h.hp,h.hq,e2,e3];exact Nat.mul_lt_mul_of_pos_right lt2 hpq
 ·rw[h.hp,h.hq,e1,e2];constructor
  ·intro _ e;have:=Nat.eq_of_mul_eq_mul_right hpq e;omega
  ·intro _;rfl
theorem dSqrt_eq{a:F}{x p q:Nat}(h:SqP a x p q)(hx:root64 (sqN a)=x)(up:Bool)(he:x*x=sqN a):dSqrt up a=rndR up ((x*2^p:Nat):Int) (2^q):=by
 have hq:=pow_pos' q;have hp:=pow_pos' p;unfold dSqrt;rw[hx,show decide (x*x≠sqN a)=false from dF (fun k=>k he)];refine rndG_eq_rndR hq ?_ ?_ ?_ (fun k=>by cases k)
 ·rw[h.hp,h.hq];exact Nat.le_refl _
 ·rw[h.hp,h.hq,Nat.add_mul,Nat.add_mul];have:=Nat.mul_pos (show 0<1*2^p by omega) hq;omega
 ·rw[h.hp,h.hq];exact⟨fun k=>(by cases k),fun k=>absurd rfl k⟩
def un(p q:Nat):Rat:=((2^p:Nat):Rat)/((S:Rat)*((2^q:Nat):Rat))
theorem un_pos(p q:Nat):0<un p q:=by have h1:=pow_q p;have h2:=Rat.mul_pos S_gt (pow_q q);unfold un;rw[Rat.div_def];exact Rat.mul_pos h1 (Rat.inv_pos.2 h2)
theorem un_val{a:F}{x p q:Nat}(h:SqP a x p q)(ha:0<a.k):a.q=((sqN a:Nat):Rat)*(un p q*un p q):=by
 have hz:a.z=((mn a*2^ex a:Nat):Int):=by rw[z_parts,show sg a=false from dF (by omega)];rfl
 have e:((sqN a*2^(2*p):Nat):Rat)=((mn a*2^ex a*2^(2*q)*2^1074:Nat):Rat):=by rw[h.val]
 have e2:(2^1074:Nat)=S:=S_eq.symm;rw[e2,Nat.mul_comm 2 p,Nat.mul_comm 2 q,Nat.pow_mul,Nat.pow_mul,Nat.pow_two,Nat.pow_two]at e;have e3:(2^p)*(2^p)=(2^p*2^p:Nat):=rfl;have hm:=F.q_mul a;rw[hz,Rat.intCast_natCast,Rat.natCast_mul]at hm;rw[Rat.natCast_mul,Rat.natCast_mul,Rat.natCast_mul,Rat.natCast_mul,Rat.natCast_mul,<-hm,Rat.natCast_mul]at e;have hS:=S_ne;have hq:=pow_q q;unfold un;generalize ((2^p:Nat):Rat)=u at*;generalize ((2^q:Nat):Rat)=v at*;generalize (S:Rat)=s at*;generalize ((sqN a:Nat):Rat)=N at*;generalize a.q=y at*;grind
theorem mid_v(x n d p q:Nat)(hd:0<d):((((x*d+n)*2^p:Nat):Int):Rat)/((S:Rat)*((d*2^q:Nat):Rat))=((x:Rat)+(n:Rat)/(d:Rat))*un p q:=by have hS:=S_ne;have hq:=pow_q q;have hd':=natq_pos hd;unfold un;rw[Rat.intCast_natCast,Rat.natCast_mul,Rat.natCast_add,Rat.natCast_mul,Rat.natCast_mul];generalize ((2^p:Nat):Rat)=u at*;generalize ((2^q:Nat):Rat)=v at*;generalize (S:Rat)=s at*;generalize (x:Rat)=a at*;generalize (n:Rat)=b at*;generalize (d:Rat)=c at*;grind
theorem eq_v(x p q:Nat):(((x*2^p:Nat):Int):Rat)/((S:Rat)*((2^q:Nat):Rat))=(x:Rat)*un p q:=by unfold un;rw[Rat.intCast_natCast,Rat.natCast_mul,Rat.div_def,Rat.div_def,Rat.mul_assoc]
theorem arch{δ:Rat}(h:0<δ):∃d:Nat,2<=d/\1<=(d:Rat)*δ:=by
 have h1:=Rat.lt_floor_add_one (1/δ);have e:1/δ*δ=1:=Rat.div_mul_cancel (by grind);have h0:0<=1/δ:=by rw[Rat.div_def];exact mN (by grind) (Rat.le_of_lt (Rat.inv_pos.2 h))
 have hf:(0:Int)<=(1/δ).floor:=Rat.le_floor_iff.2 (by simpa using h0);obtain⟨k,hk⟩:=Int.eq_ofNat_of_zero_le hf;refine⟨k+2,by omega,?_⟩;rw[hk]at h1;have e2:(((k:Int)+1:Int):Rat)=(k:Rat)+1:=by rw[Rat.intCast_add,Rat.intCast_natCast];rfl
 rw[e2]at h1;rw[Rat.natCast_add,show((2:Nat):Rat)=2 from rfl];have k1:=mN (Rat.le_of_lt h) (show 0<=(k:Rat)+1-1/δ by grind);grind
theorem sq_lt{x y:Rat}(hx:0<=x)(hy:0<=y)(h:x*x<y*y):x<y:=by apply Rat.not_le.1;intro g;have:=mN (show 0<=x-y by grind) (show 0<=x+y by grind);grind
theorem sq_le'{x y:Rat}(hx:0<=x)(hy:0<=y)(h:x*x<=y*y):x<=y:=by apply Rat.not_lt.1;intro g;have:=Rat.mul_pos (show 0<x-y by grind) (show 0<x+y by grind);grind
structure SqD (r a:F):Prop where
 nn:0<=r.q
 le:r.q*r.q<=a.q
 top:∀c:F,0<=c.q->c.q*c.q<=a.q->c.q<=r.q
structure SqU (r a:F):Prop where
 nn:0<=r.q
 ge:a.q<=r.q*r.q
 bot:∀c:F,0<=c.q->a.q<=c.q*c.q->r.q<=c.q
def E512:Nat:=2^512
def E1024:Nat:=2^1024
def MB:Rat:=(E512:Rat)
theorem E_sq:decide (E1024=E512*E512/\0<E512)=true:=by decide+kernel
theorem max_zB:decide (F.max.z<=((E1024*S:Nat):Int))=true:=by decide+kernel
def hugeF:F:=F.of ((1536*4503599627370496:Nat):Int)
theorem huge_z:decide (hugeF.z=((2*E512*S:Nat):Int))=true:=by decide+kernel
attribute [irreducible] E512 E1024
theorem F_le(a:F):a.q<=MB*MB:=by
 have hT:=T_num;have h1:a.q<=F.max.q:=q_le.2 (by have:=a.hk;rw[F.max_k];omega);refine Rat.le_trans h1 ?_;refine Rat.le_of_mul_le_mul_right (c:=(S:Rat)) ?_ S_gt;rw[F.q_mul];have h2:=Rat.intCast_le_intCast.2 (oTz max_zB);have h3:(E1024:Rat)=MB*MB:=by unfold MB;rw[<-Rat.natCast_mul,<-(oTz E_sq).1]
 rw[<-h3,<-Rat.natCast_mul];exact h2
theorem huge_q:hugeF.q=2*MB:=by
 have h:=F.q_mul hugeF;rw[oTz huge_z]at h;have h2:(((2*E512*S:Nat):Int):Rat)=2*MB*(S:Rat):=by unfold MB;rw[Rat.intCast_natCast,Rat.natCast_mul,Rat.natCast_mul];rfl
 rw[h2]at h;have hs:=S_gt;generalize (S:Rat)=s at*;generalize MB=m at*;have e:(hugeF.q-2*m)*s=0:=by grind
 rcases Rat.mul_eq_zero.1 e with e|e
 ·grind
 ·grind
theorem MB_pos:0<MB:=by have h:=Rat.natCast_lt_natCast.2 (oTz E_sq).2;exact h
theorem sqrt_gen{a:F}(ha:0<a.k):(∃r,dSqrt false a=(r,0)/\SqD r a)/\∃r,dSqrt true a=(r,0)/\SqU r a:=by
 obtain⟨x,p,q,h,hx⟩:=sqP ha;have hw:=un_pos p q;have hv:=un_val h ha;have eN:∀n m:Nat,n<=m->(n:Rat)<=(m:Rat):=fun n m g=>Rat.natCast_le_natCast.2 g;have r1:=eN _ _ h.root.le;have r2:((sqN a:Nat):Rat)<((((x+1)*(x+1):Nat)):Rat):=Rat.natCast_lt_natCast.2 h.root.lt;rw[Rat.natCast_mul]at r1;rw[Rat.natCast_mul,Rat.natCast_add,show((1:Nat):Rat)=1 from rfl]at r2;have x1:(1:Rat)<=(x:Rat):=by have:=eN 1 x (by have:=h.big;omega);simpa using this
 obtain⟨big,hbig⟩:∃c:F,c.q=2*MB:=⟨hugeF,huge_q⟩;have hs:=F_le a;have hMB:=MB_pos;generalize MB=mb at*;have hwv:=Rat.mul_pos hw hw;have xw:(x:Rat)*un p q<=mb:=by refine sq_le' (mN (by grind) (Rat.le_of_lt hw)) (by grind) ?_;have:=mN (show 0<=((sqN a:Nat):Rat)-(x:Rat)*(x:Rat) by grind) (Rat.le_of_lt hwv);grind
 have wx:=mN (show 0<=(x:Rat)-1 by grind) (Rat.le_of_lt hw);by_cases he:x*x=sqN a
 ·-- a square
  have f1:=dSqrt_eq h hx false he;have f2:=dSqrt_eq h hx true he;have hn:((sqN a:Nat):Rat)=(x:Rat)*(x:Rat):=by rw[<-he,Rat.natCast_mul]
  have v0:0<=(x:Rat)*un p q:=mN (by grind) (Rat.le_of_lt hw);obtain⟨r,g1,g2⟩:=rndR_dn (A:=((x*2^p:Nat):Int)) (B:=2^q) (pow_pos' q) (eq_v x p q) F.zero (by rw[q_zero];exact v0);obtain⟨s,g3,g4⟩:=rndR_up (A:=((x*2^p:Nat):Int)) (B:=2^q) (pow_pos' q) (eq_v x p q) big (by rw[hbig];grind);have av:a.q=((x:Rat)*un p q)*((x:Rat)*un p q):=by rw[hv,hn];grind
  generalize (x:Rat)*un p q=v at*;refine⟨⟨r,by rw[f1,g1],?_,?_,?_⟩,⟨s,by rw[f2,g3],?_,?_,?_⟩⟩
  ·rw[<-q_zero];exact g2.top F.zero (by rw[q_zero];exact v0)
  ·have r0:0<=r.q:=by rw[<-q_zero];exact g2.top F.zero (by rw[q_zero];exact v0)
   have:=g2.le;rw[av];exact sq_bd (by grind) this
  ·intro c c0 hc;exact g2.top c (sq_le' c0 v0 (by rw[<-av];exact hc))
  ·have:=g4.ge;grind
  ·have:=g4.ge;rw[av];exact sq_bd (by grind) this
  ·intro c c0 hc;exact g4.bot c (sq_le' v0 c0 (by rw[<-av];exact hc))
 ·-- between
  have mid:∀(up:Bool)(n d:Nat),0<n->n<d->dSqrt up a=rndR up (((x*d+n)*2^p:Nat):Int) (d*2^q):=fun up n d=>dSqrt_mid h hx up he n d;have dn:∀n d:Nat,0<n->n<d->∃r,dSqrt false a=(r,0)/\Dn r (((x:Rat)+(n:Rat)/(d:Rat))*un p q):=by
   intro n d h0 h1;have hd:=natq_pos (show 0<d by omega);have hnd:0<=(n:Rat)/(d:Rat):=by rw[Rat.div_def];exact mN (natq_nn n) (Rat.le_of_lt (Rat.inv_pos.2 hd))
   obtain⟨r,g1,g2⟩:=rndR_dn (A:=(((x*d+n)*2^p:Nat):Int)) (B:=d*2^q) (Nat.mul_pos (by omega) (pow_pos' q)) (mid_v x n d p q (by omega)) F.zero (by rw[q_zero];exact mN (by grind) (Rat.le_of_lt hw));exact⟨r,by rw[mid false n d h0 h1,g1],g2⟩
  have up:∀n d:Nat,0<n->n<d->∃r,dSqrt true a=(r,0)/\Up r (((x:Rat)+(n:Rat)/(d:Rat))*un p q):=by
   intro n d h0 h1;have hd:=natq_pos (show 0<d by omega);have hnd:(n:Rat)/(d:Rat)<=1:=by have e:(n:Rat)/(d:Rat)*(d:Rat)=(n:Rat):=Rat.div_mul_cancel (by grind);have:=eN n d (by omega);refine Rat.le_of_mul_le_mul_right (c:=(d:Rat)) ?_ hd;rw[e];grind
   have k:=mN (show 0<=1-(n:Rat)/(d:Rat) by grind) (Rat.le_of_lt hw);obtain⟨r,g1,g2⟩:=rndR_up (A:=(((x*d+n)*2^p:Nat):Int)) (B:=d*2^q) (Nat.mul_pos (by omega) (pow_pos' q)) (mid_v x n d p q (by omega)) big (by rw[hbig];grind);exact⟨r,by rw[mid true n d h0 h1,g1],g2⟩
  obtain⟨r,e1,_⟩:=dn 1 2 (by omega) (by omega);obtain⟨s,e2,s2⟩:=up 1 2 (by omega) (by omega);have dn':∀n d:Nat,0<n->n<d->Dn r (((x:Rat)+(n:Rat)/(d:Rat))*un p q):=by intro n d h0 h1;obtain⟨r',g1,g2⟩:=dn n d h0 h1;rw[e1]at g1;rw[(Prod.mk.inj g1).1];exact g2
  have up':∀n d:Nat,0<n->n<d->Up s (((x:Rat)+(n:Rat)/(d:Rat))*un p q):=by intro n d h0 h1;obtain⟨r',g1,g2⟩:=up n d h0 h1;rw[e2]at g1;rw[(Prod.mk.inj g1).1];exact g2
  have divd:∀d:Nat,2<=d->((d-1:Nat):Rat)/(d:Rat)=1-1/(d:Rat)/\0<(d:Rat):=by
   intro d hd;have h0:=natq_pos (show 0<d by omega);have e:((d-1:Nat):Rat)+1=(d:Rat):=by rw[show(1:Rat)=((1:Nat):Rat)from rfl,<-Rat.natCast_add,show d-1+1=d from by omega]
   refine⟨?_,h0⟩;generalize ((d-1:Nat):Rat)=y at*;generalize (d:Rat)=z at*;grind
  have one_d:((1:Nat):Rat)=1:=rfl;have hlt:(x:Rat)*(x:Rat)<((sqN a:Nat):Rat):=by
   have:x*x<sqN a:=Nat.lt_of_le_of_ne h.root.le he;have:=Rat.natCast_lt_natCast.2 this
   rwa [Rat.natCast_mul]at this
  have a_lo:(x:Rat)*un p q*((x:Rat)*un p q)<a.q:=by rw[hv];have:=Rat.mul_pos (show 0<((sqN a:Nat):Rat)-(x:Rat)*(x:Rat) by grind) hwv;grind
  have a_hi:a.q<((x:Rat)+1)*un p q*(((x:Rat)+1)*un p q):=by rw[hv];have:=Rat.mul_pos (show 0<((x:Rat)+1)*((x:Rat)+1)-((sqN a:Nat):Rat) by grind) hwv;grind
  have x0:0<=(x:Rat)*un p q:=mN (by grind) (Rat.le_of_lt hw);have x2:0<=((x:Rat)+1)*un p q:=mN (by grind) (Rat.le_of_lt hw);have r0:0<=r.q:=by rw[<-q_zero];exact(dn' 1 2 (by omega) (by omega)).top F.zero (by rw[q_zero];exact mN (by rw[one_d];grind) (Rat.le_of_lt hw))
  -- near to below
  have near1:∀y:Rat,(x:Rat)*un p q<y->∃d:Nat,2<=d/\((x:Rat)+((1:Nat):Rat)/(d:Rat))*un p q<=y:=by
   intro y hy;have hδ:0<(y-(x:Rat)*un p q)/un p q:=by rw[Rat.div_def];exact Rat.mul_pos (by grind) (Rat.inv_pos.2 hw)
   obtain⟨d,d1,d2⟩:=arch hδ;have d0:=(divd d d1).2;refine⟨d,d1,?_⟩;have e:(y-(x:Rat)*un p q)/un p q*un p q=y-(x:Rat)*un p q:=Rat.div_mul_cancel (by grind);generalize (y-(x:Rat)*un p q)/un p q=δ at*;have e3:(1:Rat)/(d:Rat)*(d:Rat)=1:=Rat.div_mul_cancel (by grind);have k1:(1:Rat)/(d:Rat)<=δ:=by refine Rat.le_of_mul_le_mul_right (c:=(d:Rat)) ?_ d0;rw[e3];grind
   rw[one_d];have:=mN (show 0<=δ-1/(d:Rat) by grind) (Rat.le_of_lt hw);grind
  have near2:∀y:Rat,y<((x:Rat)+1)*un p q->∃d:Nat,2<=d/\y<=((x:Rat)+((d-1:Nat):Rat)/(d:Rat))*un p q:=by
   intro y hy;have hδ:0<(((x:Rat)+1)*un p q-y)/un p q:=by rw[Rat.div_def];exact Rat.mul_pos (by grind) (Rat.inv_pos.2 hw)
   obtain⟨d,d1,d2⟩:=arch hδ;obtain⟨dd,d0⟩:=divd d d1;refine⟨d,d1,?_⟩;have e:(((x:Rat)+1)*un p q-y)/un p q*un p q=((x:Rat)+1)*un p q-y:=Rat.div_mul_cancel (by grind);generalize (((x:Rat)+1)*un p q-y)/un p q=δ at*;have e3:(1:Rat)/(d:Rat)*(d:Rat)=1:=Rat.div_mul_cancel (by grind);have k1:(1:Rat)/(d:Rat)<=δ:=by refine Rat.le_of_mul_le_mul_right (c:=(d:Rat)) ?_ d0;rw[e3];grind
   rw[dd];have:=mN (show 0<=δ-1/(d:Rat) by grind) (Rat.le_of_lt hw);grind
  have r3:r.q<=(x:Rat)*un p q:=by apply Rat.not_lt.1;intro g;obtain⟨d,d1,d2⟩:=near1 ((r.q+(x:Rat)*un p q)/2) (by grind);have:=(dn' 1 d (by omega) (by omega)).le;grind
  have s3:((x:Rat)+1)*un p q<=s.q:=by apply Rat.not_lt.1;intro g;obtain⟨d,d1,d2⟩:=near2 ((s.q+((x:Rat)+1)*un p q)/2) (by grind);have:=(up' (d-1) d (by omega) (by omega)).ge;grind
  refine⟨⟨r,e1,r0,?_,?_⟩,⟨s,e2,by grind,?_,?_⟩⟩
  ·have:=sq_bd (x:=r.q) (m:=(x:Rat)*un p q) (by grind) r3;grind
  ·intro c c0 hc;have hlt:=sq_lt c0 x2 (by grind);obtain⟨d,d1,d2⟩:=near2 c.q hlt;exact(dn' (d-1) d (by omega) (by omega)).top c d2
  ·have:=sq_bd (x:=((x:Rat)+1)*un p q) (m:=s.q) (by grind) s3;grind
  ·intro c c0 hc;have hlt:=sq_lt x0 c0 (by grind);obtain⟨d,d1,d2⟩:=near1 c.q hlt;exact(up' 1 d (by omega) (by omega)).bot c d2
end Bu
namespace Bu
open Rx Go
def unI(n:Int):I:=⟨(unitOf n.toNat).lo,(unitOf n.toNat).hi⟩
def kOf(g:Int->I)(u:Int->Bool):List SV->Dec->Option (SV×Dec×Obs)
 | [x], ds => match intS x with
   |some (.u64,n)=>some (.agg [.fl (g n).lo,.fl (g n).hi],ds,[(u n,true)])
   |_=>none
 |_,_=>none
structure Kq where
 ib:I->Bool
 si:I->I
 co:I->I
 uo:Int->I
 u:Int->Bool
 sqrt:Int->I->I×Int
 mul:Int->I->I->I×Int
 sub:Int->I->I->I×Int
 max:Int->I->I->I×Int
 num:Int->F->I×Int
def dR(N:Kq)(a:Int):I×Int:=N.sqrt 0 (N.uo a)
def dX(N:Kq)(a b:Int):I×Int:=N.mul (dR N a).2 (dR N a).1 (N.co (N.uo b))
def dY(N:Kq)(a b:Int):I×Int:=N.mul (dX N a b).2 (dR N a).1 (N.si (N.uo b))
def dO(N:Kq)(a b:Int):I×Int:=N.num (dY N a b).2 one64
def dD(N:Kq)(a b:Int):I×Int:=N.sub (dO N a b).2 (dO N a b).1 (N.uo a)
def dN(N:Kq)(a b:Int):I×Int:=N.num (dD N a b).2 (toF 0)
def dM(N:Kq)(a b:Int):I×Int:=N.max (dN N a b).2 (dD N a b).1 (dN N a b).1
def dZ(N:Kq)(a b:Int):I×Int:=N.sqrt (dM N a b).2 (dM N a b).1
def keptI(a:I)(l h:F):I:=⟨mnF (mxF a.lo l) h,mnF (mxF a.hi l) h⟩
def dV(N:Kq)(a b:Int):I×I×I:=(keptI (dX N a b).1 mone64 one64,keptI (dY N a b).1 mone64 one64,keptI (dZ N a b).1 (toF 0) one64)
def KqR(f:F->I×I):Kq:=⟨fun u=>inB u.lo u.hi,fun u=>sinM f u.lo u.hi,fun u=>cosM f u.lo u.hi,unI,fun n=>decide (0<=n/\n<=18446744073709551615),cSqrt qSqrt,KTR.mul,KTR.sub,cMax,KTR.num⟩
theorem qSqrt_gen{a:F}(h0:0<=a.q):(∃r,qSqrt false a=(r,0)/\SqD r a)/\∃r,qSqrt true a=(r,0)/\SqU r a:=by
 have hk:0<=a.k:=by have:=q_le.1 (show F.zero.q<=a.q by rw[q_zero];exact h0);exact this
 unfold qSqrt;have hk':¬a.k<0:=by omega
 simp only[if_neg hk'];by_cases hz:a.k=0
 ·simp only[if_pos hz];have ha:a=F.zero:=F.ext' hz;subst ha;refine⟨⟨F.zero,rfl,?_,?_,?_⟩,⟨F.zero,rfl,?_,?_,?_⟩⟩
  ·rw[q_zero];exact Rat.le_refl
  ·rw[q_zero];grind
  ·intro c c0 hc;rw[q_zero]at hc ⊢;exact sq_le' c0 Rat.le_refl (by grind)
  ·rw[q_zero];exact Rat.le_refl
  ·rw[q_zero];grind
  ·intro c c0 _;rw[q_zero];exact c0
 ·simp only[if_neg hz];exact sqrt_gen (by omega)
theorem qSqrt_ok{a:F}(h0:0<=a.q)(_:a.q<=67108864):(∃r,qSqrt false a=(r,0)/\SqD r a)/\∃r,qSqrt true a=(r,0)/\SqU r a:=qSqrt_gen h0
theorem csqrt_ok{a:I}(ha:U01 a):∃r,cSqrt qSqrt 0 a=(r,0)/\U01 r/\SqD r.lo a.lo/\SqU r.hi a.hi:=by
 have h1:=ha.lo;have h2:=ha.rt;have h3:=ha.hi;obtain⟨l,e1,l1⟩:=(qSqrt_ok h1 (by grind)).1;obtain⟨h,e2,l2⟩:=(qSqrt_ok (a:=a.hi) (by grind) (by grind)).2;refine⟨⟨l,h⟩,?_,⟨l1.nn,?_,?_⟩,l1,l2⟩
 ·unfold cSqrt;rw[e1,e2,ends_ok,ask_ok (rt_q h2) rfl]
 ·have:=l1.le;have:=l2.ge;exact sq_le' l1.nn l2.nn (by grind)
 ·rw[<-one_q];exact l2.bot one64 (by rw[one_q];grind) (by rw[one_q];grind)
theorem one_k2:one64.k=4607182418800017408:=one64_k
theorem unI_U(n:Int)(h0:0<=n)(h1:n<=18446744073709551615):U01 (unI n):=by
 have hn:n.toNat<18446744073709551616:=by omega
 have a1:=unitLo_nonneg n.toNat hn;have a2:=unitHi_le n.toNat hn;have a3:=unitLo_k n.toNat hn;have a4:=unitHi_k n.toNat hn;refine⟨?_,?_,?_⟩
 ·rw[<-q_zero];exact q_le.2 a1
 ·refine q_le.2 ?_;show(unitLo n.toNat).k<=(unitOf n.toNat).hi.k;rw[a3,a4];have e1:=(le_flI (k:=flI ((n.toNat*Q64:Nat):Int) 1) (A:=((n.toNat*Q64:Nat):Int)) (B:=1) (by omega)).1 (Int.le_refl _);have e2:=(ceI_le (k:=ceI ((n.toNat*Q64:Nat):Int) 1) (A:=((n.toNat*Q64:Nat):Int)) (B:=1) (by omega)).1 (Int.le_refl _);exact nvZ_le_iff.1 (by omega)
 ·rw[<-one_q];exact q_le.2 (by rw[one_k2];exact a2)
theorem unI_in(n:Int)(h0:0<=n)(h1:n<=18446744073709551615):inB (unI n).lo (unI n).hi=true:=by obtain⟨u1,u2,u3⟩:=unI_U n h0 h1;unfold inB;have z:(toF 0).q=0:=consts.2.2.2.2.2.2.2;rw[rt_q (a:=⟨(unI n).lo,(unI n).hi⟩) u2,dT (q_le.1 (by rw[z];exact u1)),dT (q_le.1 (by rw[one_q];exact u3))];rfl
structure DrawF (a b:Int) where
 r:I
 x:I
 y:I
 d:I
 z:I
structure DrawP (a b:Int) (D:DrawF a b):Prop where
 er:dR (KqR atR) a=(D.r,0)
 ex:dX (KqR atR) a b=(D.x,0)
 ey:dY (KqR atR) a b=(D.y,0)
 ed:dD (KqR atR) a b=(D.d,0)
 ez:dZ (KqR atR) a b=(D.z,0)
 ru:U01 D.r
 du:U01 D.d
 zu:U01 D.z
 r1:SqD D.r.lo (unI a).lo
 r2:SqU D.r.hi (unI a).hi
 d1:Dn D.d.lo (1-(unI a).hi.q)
 d2:Up D.d.hi (1-(unI a).lo.q)
 z1:SqD D.z.lo D.d.lo
 z2:SqU D.z.hi D.d.hi
 mx:AllR D.x (D.r.lo.q*(cosM atR (unI b).lo (unI b).hi).lo.q) (D.r.lo.q*(cosM atR (unI b).lo (unI b).hi).hi.q) (D.r.hi.q*(cosM atR (unI b).lo (unI b).hi).lo.q) (D.r.hi.q*(cosM atR (unI b).lo (unI b).hi).hi.q)
 my:AllR D.y (D.r.lo.q*(sinM atR (unI b).lo (unI b).hi).lo.q) (D.r.lo.q*(sinM atR (unI b).lo (unI b).hi).hi.q) (D.r.hi.q*(sinM atR (unI b).lo (unI b).hi).lo.q) (D.r.hi.q*(sinM atR (unI b).lo (unI b).hi).hi.q)
theorem zero0_q:(toF 0).q=0:=consts.2.2.2.2.2.2.2
theorem draw_ok{a b:Int}(h0:0<=a)(h1:a<=18446744073709551615):∃D:DrawF a b,DrawP a b D:=by
 have hu:=unI_U a h0 h1;have u1:=hu.lo;have u2:=hu.rt;have u3:=hu.hi;obtain⟨r,e1,ru,r1,r2⟩:=csqrt_ok hu;obtain⟨x,e2,hx⟩:=cMul_ok ru.sm (cosM_in (unI b).lo (unI b).hi).sm;obtain⟨y,e3,hy⟩:=cMul_ok ru.sm (sinM_in (unI b).lo (unI b).hi).sm;have oU:U01 ⟨one64,one64⟩:=⟨by show 0<=one64.q;rw[one_q];grind,Rat.le_refl,by show one64.q<=1;rw[one_q];exact Rat.le_refl⟩;obtain⟨d,e4,d1,d2⟩:=cSub_ok oU.sm hu.sm;simp only[one_q]at d1 d2;have dU:U01 d:=by
  refine⟨?_,?_,?_⟩
  ·rw[<-q_zero];exact d1.top F.zero (by rw[q_zero];grind)
  ·have:=d1.le;have:=d2.ge;grind
  ·rw[<-one_q];exact d2.bot one64 (by rw[one_q];grind)
 have d3:=dU.lo;have d4:=dU.rt;have hz:∀x:F,0<=x.q->mxF x (toF 0)=x:=by intro x hx;have:=q_le.1 (show(toF 0).q<=x.q by rw[zero0_q];exact hx);unfold mxF;rw[if_neg (by omega)]
 have e5:cMax 0 d ⟨toF 0,toF 0⟩=(d,0):=by unfold cMax;rw[ask_ok (by rw[rt_q d4,show Bu.rt ⟨toF 0,toF 0⟩=true from dT (Int.le_refl _)];rfl) rfl];unfold maxI;simp only[hz _ d3,hz d.hi (by grind)]
 obtain⟨z,e6,zu,z1,z2⟩:=csqrt_ok dU;have f1:dR (KqR atR) a=(r,0):=e1;have f2:dX (KqR atR) a b=(x,0):=by unfold dX;simp only[f1];exact e2
 have f3:dY (KqR atR) a b=(y,0):=by unfold dY;simp only[f1,f2];exact e3
 have f4:dO (KqR atR) a b=(⟨one64,one64⟩,0):=by unfold dO;simp only[f3];exact cNum_ok one64
 have f5:dD (KqR atR) a b=(d,0):=by unfold dD;simp only[f4];exact e4
 have f6:dN (KqR atR) a b=(⟨toF 0,toF 0⟩,0):=by unfold dN;simp only[f5];exact cNum_ok (toF 0)
 have f7:dM (KqR atR) a b=(d,0):=by unfold dM;simp only[f5,f6];exact e5
 have f8:dZ (KqR atR) a b=(z,0):=by unfold dZ;simp only[f7];exact e6
 exact⟨⟨r,x,y,d,z⟩,⟨f1,f2,f3,f5,f8,ru,dU,zu,r1,r2,d1,d2,z1,z2,hx,hy⟩⟩
def midI(a b:F):F:=(dAdd false a (dMul false q2 (dSub false b a).1).1).1
def midM(a b c d e f:F):F×F×F:=(midI a b,midI c d,midI e f)
def rt3(a b c d e f:F):Bool:=rt ⟨a,b⟩&&(rt ⟨c,d⟩&&rt ⟨e,f⟩)
def kMid(p:F->F->F->F->F->F->Bool)(md:F->F->F->F->F->F->F×F×F):List SV->Dec->Option (SV×Dec×Obs)
 | [.agg [.fl a,.fl b,.fl c,.fl d,.fl e,.fl f]],ds=>(takeB ds (p a b c d e f)).map fun r=>(bif r.1 then .tup [.agg [.fl (md a b c d e f).1,.fl (md a b c d e f).2.1,.fl (md a b c d e f).2.2],.i .i64 0]else .tup [.agg [.fl F.zero,.fl F.zero,.fl F.zero],.i .i64 20],r.2.1,r.2.2)
 |_,_=>none
theorem one64_nv:nv 4607182418800017408=S:=oTz (by decide+kernel)
theorem near_int{n:Nat}(h:n<=9007199254740992):FloatKind.f64.nearest (n:Int)=(F.dy n 0).b:=by have:=nat_conv (m:=n) (by have:P=4503599627370496:=rfl;omega);rw[<-this];rfl
theorem add_zero_F(b:F):Ieee.double.add b.b (toF 0).b=some b.b:=by
 have ez:(toF 0).z=0:=by rw[show toF 0=F.zero from F.ext' (by decide+kernel)];exact F.zero_z
 rw[add_F,ez,Int.add_zero];by_cases h:b.k=0
 ·have e:b=F.zero:=F.ext' h;subst e;rw[if_pos F.zero_z];rfl
 ·rw[if_neg (fun k=>h ((z_zero _).1 k))];congr 1;rw[z_natAbs',near_exact (r:=b.k.natAbs) (by decide) (by omega)];have:=b.hk;rw[show min b.k.natAbs T=b.k.natAbs from by omega,<-word_sign _ h];congr 1;exact decide_eq_decide.2 (z_sign _)
end Bu
namespace Go.Proofs.YtejcekikbnlllaaGreat
open Go.RowKit Bu Rx
structure Ks where
 lt:Int->Int->Int->Int->Bool
 h:Int->Int
 l:Int->Int
 u:Int->Bool
def kLess(K:Ks):List SV->Dec->Option (SV×Dec×Obs)
 | [.agg [x, y], .agg [z, t]], ds => match intS x, intS y, intS z, intS t with
   |some (.u64,a),some (.u64,b),some (.u64,c),some (.u64,d)=>(takeB ds (K.lt a b c d)).map fun r=>(.b r.1,r.2.1,r.2.2)
   |_,_,_,_=>none
 |_,_=>none
def kSq(K:Ks):List SV->Dec->Option (SV×Dec×Obs)
 | [x], ds => match intS x with
   |some (.u64,a)=>some (.agg [.si .u64 (K.h a),.si .u64 (K.l a)],ds,[(K.u a,true)])
   |_=>none
 |_,_=>none
def OGS(K:Kd)(J:Ks)(L:Int->Int):OracleF:=
 lookO [(60,plainO oRight),(154,plainO (kParts K)),(156,plainO (kRound K)),(163,plainO (kLz L K.u)),(164,plainO (kDown K)),(165,plainO (kLess J)),(166,plainO (kSq J))]
noncomputable def cS:Code:=bodyOf prog 93
noncomputable def cL:Code:=seqL (seqR (seqR (seqR (seqR (seqR (seqR (seqR cS)))))))
noncomputable def cR:Code:=inner (inner (seqR cL))
def sT(v w:Nat->SV)(x b:SV):List SV:=[v 0,v 1,v 2,v 3,v 4,v 5,v 6,v 7,v 8,v 9,.p 0 0,x,b,v 10,v 11,v 12,v 13,v 14,v 15,v 16,v 17,v 18,v 19,v 20,v 21,v 22,v 23,v 24,v 25,v 26,v 27,v 28,v 29,v 30,v 31,v 32,v 33,v 34,v 35,v 36,v 37,v 38,v 39,v 40,v 41,v 42,v 43,v 44,v 45]++(List.range 27).map w
def sS(v w:Nat->SV)(x b:SV)(M:List Blk)(ds:Dec)(ob:Obs):St:=⟨sT v w x b,M,ds,ob⟩
def afterW(r:Option (Ex×St)):Nat->SV:=fun i=>match r with|some (_,s)=>s.T.getD (i+49) .np|none=> .np
def orI(x b:Int):Int:=IntKind.u64.wrap ↑(BitVec.ofInt IntKind.u64.bits x|||BitVec.ofInt IntKind.u64.bits b).toNat
def shI(b:Int):Int:=b.fdiv (2^min (Int.toNat 1) IntKind.u64.bits)
def nM(a b:SV):List Blk:=[⟨210,[a,b],.ex⟩]
theorem round_no(K:Kd)(J:Ks)(L:Int->Int)(n:Nat)(v w:Nat->SV)(x b N1 N2:Int)(d:List Bool)(ob:Obs) :
  (run prog EG (OGS K J L) (n+20)).2 cR (sS v w (.si .u64 x) (.si .u64 b) (nM (.si .u64 N1) (.si .u64 N2)) (some (true::true::d)) ob)=
   some (.normal,sS v (afterW ((run prog EG (OGS K J L) (n+20)).2 cR (sS v w (.si .u64 x) (.si .u64 b) (nM (.si .u64 N1) (.si .u64 N2)) (some (true::true::d)) ob))) (.si .u64 x) (.si .u64 (shI b)) (nM (.si .u64 N1) (.si .u64 N2)) (some d)
    ((J.lt N1 N2 (J.h (orI x b)) (J.l (orI x b)),true)::(J.u (orI x b),true)::(decide (b>0),true)::ob)):=by kernel_rfl
theorem round_yes(K:Kd)(J:Ks)(L:Int->Int)(n:Nat)(v w:Nat->SV)(x b N1 N2:Int)(d:List Bool)(ob:Obs) :
  (run prog EG (OGS K J L) (n+20)).2 cR (sS v w (.si .u64 x) (.si .u64 b) (nM (.si .u64 N1) (.si .u64 N2)) (some (true::false::d)) ob)=
   some (.normal,sS v (afterW ((run prog EG (OGS K J L) (n+20)).2 cR (sS v w (.si .u64 x) (.si .u64 b) (nM (.si .u64 N1) (.si .u64 N2)) (some (true::false::d)) ob))) (.si .u64 (orI x b)) (.si .u64 (shI b)) (nM (.si .u64 N1) (.si .u64 N2)) (some d)
    ((J.lt N1 N2 (J.h (orI x b)) (J.l (orI x b)),false)::(J.u (orI x b),true)::(decide (b>0),true)::ob)):=by kernel_rfl
def idB:Code->Nat| .block i _=>i|_=>0
noncomputable def iB:Nat:=idB (seqR cL)
theorem round_end(K:Kd)(J:Ks)(L:Int->Int)(n:Nat)(v w:Nat->SV)(x b N1 N2:Int)(d:List Bool)(ob:Obs) :
  (run prog EG (OGS K J L) (n+20)).2 cR (sS v w (.si .u64 x) (.si .u64 b) (nM (.si .u64 N1) (.si .u64 N2)) (some (false::d)) ob)=
   some (.exit iB,sS v (afterW ((run prog EG (OGS K J L) (n+20)).2 cR (sS v w (.si .u64 x) (.si .u64 b) (nM (.si .u64 N1) (.si .u64 N2)) (some (false::d)) ob))) (.si .u64 x) (.si .u64 b) (nM (.si .u64 N1) (.si .u64 N2)) (some d)
    ((decide (b>0),false)::ob)):=by kernel_rfl
def lessI(a b c d:Int):Bool:=decide (a<c)||(decide (a=c)&&decide (b<d))
def JR:Ks:=⟨lessI,fun x=>mulH x x,fun x=>mulL x x,u64B⟩
def OLS(f g:Int->Int->Int)(u:Int->Bool):OracleF:=lookO [(155,plainO (kMul f g u))]
theorem oracleLS:OracleOk prog (OLS mulH mulL u64B):= .cons mulG.of (.nil _)
theorem lessRun0(a b c d:Int):valR ((run prog EG (OLS mulH mulL u64B) 60).1 165 [.agg [.si .u64 a,.si .u64 b],.agg [.si .u64 c,.si .u64 d]] [] (some [true]))=some (.b true,some [],[(decide (a<c),true)]):=by kernel_rfl
theorem lessRun1(a b c d:Int):valR ((run prog EG (OLS mulH mulL u64B) 60).1 165 [.agg [.si .u64 a,.si .u64 b],.agg [.si .u64 c,.si .u64 d]] [] (some [false,false]))=some (.b false,some [],[(decide (a=c),false),(decide (a<c),false)]):=by kernel_rfl
theorem lessRun2(a b c d:Int)(h:Bool):valR ((run prog EG (OLS mulH mulL u64B) 60).1 165 [.agg [.si .u64 a,.si .u64 b],.agg [.si .u64 c,.si .u64 d]] [] (some [false,true,h]))=some (.b h,some [],[(decide (b<d),h),(decide (a=c),true),(decide (a<c),false)]):=by cases h<;>kernel_rfl
theorem sqRun(f g:Int->Int->Int)(u:Int->Bool)(a:Int):valR ((run prog EG (OLS f g u) 60).1 166 [.si .u64 a] [] (some []))=some (.agg [.si .u64 (f a a),.si .u64 (g a a)],some [],[(u a,true),(u a,true)]):=by kernel_rfl
theorem lessG:PlainOk prog 165 (kLess JR):=by
 intro args ds x ds' ob h ho;unfold kLess at h;split at h
 ·rename_i y1 y2 y3 y4;split at h
  ·rename_i a b c d e1 e2 e3 e4;simp only[mIz,pIz]at h;obtain⟨⟨r,e,o⟩,h1,rfl,rfl,rfl⟩:=h;have hd:r=lessI a b c d:=takeB_ok h1 ho;refine⟨[.agg #[.int .u64 a,.int .u64 b],.agg #[.int .u64 c,.int .u64 d]],.bool r,plains_cons (plain_agg (plains_cons (intS_plain e1) (plains_cons (intS_plain e2) plains_nil))) (plains_cons (plain_agg (plains_cons (intS_plain e3) (plains_cons (intS_plain e4) plains_nil))) plains_nil),rfl,fun w=> ?_⟩;subst hd;cases g1:decide (a<c)
   ·cases g2:decide (a=c)
    ·rw[show lessI a b c d=false from by simp only[lessI,g1,g2,Bool.false_and,Bool.or_false]];exact calls_of_val goodG oracleLS 60 (lessRun1 a b c d) (ObsOk.of_B (obsB_yes g2 (obsB_yes g1 obsB_nil))) rfl rfl w
    ·rw[show lessI a b c d=decide (b<d)from by simp only[lessI,g1,g2,Bool.true_and,Bool.false_or]];exact calls_of_val goodG oracleLS 60 (lessRun2 a b c d _) (ObsOk.of_B (obsB_yes rfl (obsB_yes g2 (obsB_yes g1 obsB_nil)))) rfl rfl w
   ·rw[show lessI a b c d=true from by simp only[lessI,g1,Bool.true_or]];exact calls_of_val goodG oracleLS 60 (lessRun0 a b c d) (ObsOk.of_B (obsB_yes g1 obsB_nil)) rfl rfl w
  ·cases h
 ·cases h
theorem squareG:PlainOk prog 166 (kSq JR):=by
 intro args ds x ds' ob h ho;unfold kSq at h;split at h
 ·rename_i y1;split at h
  ·rename_i a e1;simp only[sIz,pIz]at h;obtain⟨rfl,rfl,rfl⟩:=h;have hu:u64B a=true:=ho (JR.u a,true) (by simp);exact⟨[.int .u64 a],_,plains_cons (intS_plain e1) plains_nil,rfl,fun w=>calls_of_val goodG oracleLS 60 (sqRun mulH mulL u64B a) (ObsOk.of_B (obsB_yes hu (obsB_yes hu obsB_nil))) rfl rfl w⟩
  ·cases h
 ·cases h
theorem oracleGS:OracleOk prog (OGS KR JR lzI):= .cons rightG.of (.cons partsG.of (.cons roundG.of (.cons lzG.of (.cons downG.of (.cons lessG.of (.cons squareG.of (.nil _)))))))
def chain(P:Program)(E:ExtF)(O:OracleF)(n:Nat):List Code->St->Option St
 | [],s=>some s
 | c :: l, s => match (run P E O n).2 c s with
   |some (.normal,s1)=>chain P E O n l s1
   |_=>none
def seqs:List Code->Code->Code
 | [],c=>c
 |a::l,c=> .seq a (seqs l c)
theorem chain_suf{P:Program}{E:ExtF}{O:OracleF}{n:Nat}(hP:Rx.Good P E)(hO:OracleOk P O):∀{l:List Code}{s s':St},chain P E O n l s=some s'->Suf s.ob s'.ob
 | [],s,s',h=>by simp only[chain,sIz]at h;subst h;exact Suf.refl _
 | c :: l, s, s', h => by
   unfold chain at h;split at h
   ·rename_i s1 h1;exact((run_ok hP hO n).2.1 _ _ _ _ h1).1.trans (chain_suf hP hO h)
   ·cases h
theorem chain_ok{P:Program}{E:ExtF}{O:OracleF}{n:Nat}(hP:Rx.Good P E)(hO:OracleOk P O):∀{l:List Code}{s s':St}{c:Code}{ex:Ex}{s2:St},chain P E O n l s=some s'->ObsOk s'.ob->RunsTo P c s' ex s2->RunsTo P (seqs l c) s ex s2
 | [],s,s',c,ex,s2,h,_,k=>by simp only[chain,sIz]at h;subst h;exact k
 | c1 :: l, s, s', c, ex, s2, h, ho, k => by
   unfold chain at h;split at h
   ·rename_i s1 h1;exact(RunsTo.of hP hO h1 ((chain_suf hP hO h).ok ho)).seq (chain_ok hP hO h ho k)
   ·cases h
noncomputable def cHs:List Code:=[seqL cS,seqL (seqR cS),seqL (seqR (seqR cS)),seqL (seqR (seqR (seqR cS))),seqL (seqR (seqR (seqR (seqR cS)))),seqL (seqR (seqR (seqR (seqR (seqR cS))))),seqL (seqR (seqR (seqR (seqR (seqR (seqR cS))))))]
noncomputable def cB:Code:=seqR (seqR (seqR (seqR (seqR (seqR (seqR (seqR cS)))))))
theorem cS_eq:cS=seqs cHs (.seq (.seq (seqL cL) (.block iB (.loop cR))) cB):=by kernel_rfl
noncomputable def sA(x:F)(up:Bool)(d:List Bool):St:=⟨[.fl x,.b up]++List.replicate 74 (.tup []),[],some d,[]⟩
noncomputable def hL(K:Kd)(J:Ks)(L:Int->Int)(x:F)(up:Bool)(d:List Bool):Option St:=chain prog EG (OGS K J L) 40 (cHs++ [seqL cL]) (sA x up d)
def tOf(r:Option St)(i:Nat):SV:=match r with|some s=>s.T.getD i .np|none=> .np
def vH(r:Option St)(i:Nat):SV:=tOf r (if Nat.blt i 10 then i else i+3)
def wH(r:Option St)(i:Nat):SV:=tOf r (i+49)
def nS(K:Kd)(L:Int->Int)(x:F):Int:=IntKind.u64.wrap (K.mn x*2^min (L (K.mn x)).toNat IntKind.u64.bits)
def eS(K:Kd)(L:Int->Int)(x:F):Int:=IntKind.i64.wrap (IntKind.i64.wrap (K.ex x-L (K.mn x))-64)
def ob4(K:Kd)(L:Int->Int)(x:F)(odd:Bool):Obs:=[(!((eS K L x).tmod 2==0),odd),(decide (0<=L (K.mn x)),true),(K.u (K.mn x),true),(K.sg x,false),(decide (x.k=(toF 0).k),false),(decide (x.k<(toF 0).k),false)]
theorem headE(K:Kd)(J:Ks)(L:Int->Int)(x:F)(up:Bool):hL K J L x up [false,false,false,false]=some (sS (vH (hL K J L x up [false,false,false,false])) (wH (hL K J L x up [false,false,false,false])) (.i .u64 0) (.i .u64 9223372036854775808) (nM (.si .u64 (nS K L x)) (.i .u64 0)) (some []) (ob4 K L x false)):=by kernel_rfl
theorem headO(K:Kd)(J:Ks)(L:Int->Int)(x:F)(up:Bool):hL K J L x up [false,false,false,true,false]=some (sS (vH (hL K J L x up [false,false,false,true,false])) (wH (hL K J L x up [false,false,false,true,false])) (.i .u64 0) (.i .u64 9223372036854775808) (nM (.si .u64 (K.dh (nS K L x) 0 1)) (.si .u64 (K.dl (nS K L x) 0 1))) (some [])
 ([(K.u (nS K L x),true),(K.u 0,true),(K.dn 1,true),(K.dm (nS K L x) 0 1,false)]++ob4 K L x true)):=by kernel_rfl
def retR(P:Program)(fn:Func)(r:Option (Ex×St)):Option (SV×Obs):=
 match r with
 | some (.ret, s) => match resultS P fn s with
   |some x=>some (x,s.ob)
   |none=>none
 |_=>none
def obT(K:Kd)(J:Ks)(X N1 N2 e:Int)(m:Bool):Obs:=[(K.u 0,true),(K.u X,true),(K.re e,true),(!(J.h X==N1&&(J.l X==N2&&true)),m),(J.u X,true)]
theorem tailE(K:Kd)(J:Ks)(L:Int->Int)(x:F)(up:Bool)(w:Nat->SV)(X N1 N2:Int)(m:Bool) :
  retR prog Tryz.f93 ((run prog EG (OGS K J L) 40).2 cB (sS (vH (hL K J L x up [false,false,false,false])) w (.si .u64 X) (.si .u64 0) (nM (.si .u64 N1) (.si .u64 N2)) (some [m]) []))=
   some (.tup [.fl (K.rF false 0 X m (IntKind.i64.wrap ((eS K L x).tdiv 2)) up),.si .i64 (K.rI false 0 X m (IntKind.i64.wrap ((eS K L x).tdiv 2)) up)],obT K J X N1 N2 (IntKind.i64.wrap ((eS K L x).tdiv 2)) m):=by cases m<;>kernel_rfl
theorem tailO(K:Kd)(J:Ks)(L:Int->Int)(x:F)(up:Bool)(w:Nat->SV)(X N1 N2:Int)(m:Bool) :
  retR prog Tryz.f93 ((run prog EG (OGS K J L) 40).2 cB (sS (vH (hL K J L x up [false,false,false,true,false])) w (.si .u64 X) (.si .u64 0) (nM (.si .u64 N1) (.si .u64 N2)) (some [m]) []))=
   some (.tup [.fl (K.rF false 0 X m (IntKind.i64.wrap ((IntKind.i64.wrap (eS K L x+1)).tdiv 2)) up),.si .i64 (K.rI false 0 X m (IntKind.i64.wrap ((IntKind.i64.wrap (eS K L x+1)).tdiv 2)) up)],obT K J X N1 N2 (IntKind.i64.wrap ((IntKind.i64.wrap (eS K L x+1)).tdiv 2)) m):=by cases m<;>kernel_rfl
theorem sqRun0(K:Kd)(J:Ks)(L:Int->Int)(x:F)(up:Bool):valR ((run prog EG (OGS K J L) 60).1 93 [.fl x,.b up] [] (some [true]))=some (.tup [.fl F.zero,.i .i64 12],some [],[(decide (x.k<(toF 0).k),true)]):=by kernel_rfl
theorem sqRun1(K:Kd)(J:Ks)(L:Int->Int)(x:F)(up:Bool):valR ((run prog EG (OGS K J L) 60).1 93 [.fl x,.b up] [] (some [false,true]))=some (.tup [.fl F.zero,.i .i64 0],some [],[(decide (x.k=(toF 0).k),true),(decide (x.k<(toF 0).k),false)]):=by kernel_rfl
theorem u64_bits:IntKind.u64.bits=64:=rfl
theorem orI_add{a k:Nat}(h:a*2^(k+1)+2^k<18446744073709551616):orI ((a*2^(k+1):Nat):Int) ((2^k:Nat):Int)=((a*2^(k+1)+2^k:Nat):Int):=by
 have e1:a*2^(k+1)+2^k=a*2^(k+1)|||2^k:=by rw[Nat.mul_comm];exact Nat.two_pow_add_eq_or_of_lt (Nat.pow_lt_pow_right (by omega) (by omega)) a
 have h1:a*2^(k+1)<2^64:=Nat.lt_of_le_of_lt (Nat.le_add_right _ _) h;have h2:2^k<2^64:=Nat.lt_of_le_of_lt (Nat.le_add_left _ _) h;unfold orI;rw[u64_bits,BitVec.toNat_or,BitVec.ofInt_natCast,BitVec.ofInt_natCast,BitVec.toNat_ofNat,BitVec.toNat_ofNat,Nat.mod_eq_of_lt h1,Nat.mod_eq_of_lt h2,<-e1,IntKind.wrap_u64];generalize a*2^(k+1)+2^k=y at*;omega
theorem shI_half(b:Nat):shI (b:Int)=((b/2:Nat):Int):=by unfold shI;rw[u64_bits,show min (Int.toNat 1) 64=1 from rfl,Int.pow_succ,Int.pow_zero,Int.one_mul];rw[Int.fdiv_eq_ediv_of_nonneg _ (by omega)];omega
theorem lessI_wn{N1 N2:Int}{m:Nat}(a1:0<=N1)(a2:0<=N2/\N2<=18446744073709551615):lessI N1 N2 (hi m) (lo m)=decide (wn N1 N2<m):=by unfold lessI wn hi lo;rw[Bool.eq_iff_iff];simp only[Bool.or_eq_true,aTz,decide_eq_true_eq];omega
theorem mulI(y:Nat):mulH (y:Int) (y:Int)=hi (y*y)/\mulL (y:Int) (y:Int)=lo (y*y):=by unfold mulH mulL;rw[tN];exact⟨rfl,rfl⟩
theorem rounds_ok{N1 N2:Int}{n:Nat}(a1:0<=N1)(a2:0<=N2/\N2<=18446744073709551615)(hn:wn N1 N2=n):∀(k x:Nat),(∃a,x=a*2^k)->x+2^k<=18446744073709551616->∀(v w:Nat->SV)(d:Dec)(o:Obs),
  ∃w',RoundsTo prog cR (k+1) (sS v w (.si .u64 (x:Int)) (.si .u64 ((2^k/2:Nat):Int)) (nM (.si .u64 N1) (.si .u64 N2)) d o) (.exit iB) (sS v w' (.si .u64 ((rootB n k x:Nat):Int)) (.si .u64 0) (nM (.si .u64 N1) (.si .u64 N2)) none [])
 | 0, x, _, _, v, w, d, o => by have h:=round_end KR JR lzI 20 v w (x:Int) ((2^0/2:Nat):Int) N1 N2 [] [];have hr:=RunsTo.of goodG oracleGS h (ObsOk.of_B (obsB_yes (by decide) obsB_nil));exact⟨_,RoundsTo.out ((hr.fin (SameSt.same _ _ none _ [] _)).retell (SameSt.same _ _ _ _ _ _))⟩
 | k + 1, x, ha, hx, v, w, d, o => by
   obtain⟨a,rfl⟩:=ha;have hp:=pow_pos' k;have e2:(2:Nat)^(k+1)=2^k+2^k:=by rw[Nat.pow_succ];omega
   have hy:a*2^(k+1)+2^k<18446744073709551616:=by omega
   have eb:(2:Nat)^(k+1)/2=2^k:=by omega
   have eo:=orI_add hy;have es:=shI_half (2^k);have hlt:(a*2^(k+1)+2^k)*(a*2^(k+1)+2^k)<W128:=by have e:W128=18446744073709551616*18446744073709551616:=rfl;rw[e];exact Nat.mul_lt_mul'' hy hy
   have el:lessI N1 N2 (mulH ((a*2^(k+1)+2^k:Nat):Int) ((a*2^(k+1)+2^k:Nat):Int)) (mulL ((a*2^(k+1)+2^k:Nat):Int) ((a*2^(k+1)+2^k:Nat):Int))=decide (n<(a*2^(k+1)+2^k)*(a*2^(k+1)+2^k)):=by rw[(mulI _).1,(mulI _).2,lessI_wn a1 a2,hn]
   have el2:JR.lt N1 N2 (JR.h ((a*2^(k+1)+2^k:Nat):Int)) (JR.l ((a*2^(k+1)+2^k:Nat):Int))=decide (n<(a*2^(k+1)+2^k)*(a*2^(k+1)+2^k)):=el;have hu:u64B ((a*2^(k+1)+2^k:Nat):Int)=true:=u64_mk (by omega) (by omega);have hb:decide (((2^k:Nat):Int)>0)=true:=dT (by omega);rw[eb];by_cases c:(a*2^(k+1)+2^k)*(a*2^(k+1)+2^k)<=n
   ·have h:=round_yes KR JR lzI 20 v w ((a*2^(k+1):Nat):Int) ((2^k:Nat):Int) N1 N2 [] [];rw[eo,es]at h;have hr:=RunsTo.of goodG oracleGS h (ObsOk.of_B (obsB_yes (el2.trans (dF (Nat.not_lt.2 c))) (obsB_yes hu (obsB_yes hb obsB_nil))));obtain⟨w',hw⟩:=rounds_ok a1 a2 hn k (a*2^(k+1)+2^k) ⟨2*a+1,by rw[Nat.pow_succ,Nat.add_mul,Nat.one_mul,Nat.mul_comm 2 a,Nat.mul_assoc,Nat.mul_comm 2 (2^k)]⟩ (by omega) v _ (some []) _;refine⟨w',?_⟩;rw[show rootB n (k+1) (a*2^(k+1))=rootB n k (a*2^(k+1)+2^k)from by rw[rootB,if_pos c]];exact RoundsTo.next (hr.retell (SameSt.same _ _ _ _ _ _)) hw
   ·have h:=round_no KR JR lzI 20 v w ((a*2^(k+1):Nat):Int) ((2^k:Nat):Int) N1 N2 [] [];rw[eo,es]at h;have hr:=RunsTo.of goodG oracleGS h (ObsOk.of_B (obsB_yes (el2.trans (dT (Nat.not_le.1 c))) (obsB_yes hu (obsB_yes hb obsB_nil))));obtain⟨w',hw⟩:=rounds_ok a1 a2 hn k (a*2^(k+1)) ⟨2*a,by rw[Nat.pow_succ,Nat.mul_comm 2 a,Nat.mul_assoc,Nat.mul_comm 2 (2^k)]⟩ (by omega) v _ (some []) _;refine⟨w',?_⟩;rw[show rootB n (k+1) (a*2^(k+1))=rootB n k (a*2^(k+1))from by rw[rootB,if_neg c]];exact RoundsTo.next (hr.retell (SameSt.same _ _ _ _ _ _)) hw
theorem dens_mid{m:Nms}{x y:SV}{b c:List SV}(h:den m x=den m y)(hb:dens m b=dens m c):∀a:List SV,dens m (a++x::b)=dens m (a++y::c)
 | []=>by simp only[List.nil_append,dens,h,hb]
 |z::a=>by simp only[List.cons_append,dens,dens_mid h hb a]
theorem den_i(m:Nms)(k:IntKind)(n:Int):den m (.si k n)=den m (.i k n):=by simp only[den]
theorem same_head(v w:Nat->SV)(c1 c2:SV)(N1 N2:Int)(d:Dec)(o:Obs)(h:∀m,den m c1=some (.int .u64 N1))(h2:∀m,den m c2=some (.int .u64 N2)) :
  SameSt (sS v w (.si .u64 0) (.si .u64 9223372036854775808) (nM (.si .u64 N1) (.si .u64 N2)) d o) (sS v w (.i .u64 0) (.i .u64 9223372036854775808) (nM c1 c2) d o):=by
 refine⟨fun m=> ?_,rfl,?_⟩
 ·exact dens_mid (den_i m _ _) (dens_mid (a:=[]) (den_i m _ _) rfl) [v 0,v 1,v 2,v 3,v 4,v 5,v 6,v 7,v 8,v 9,.p 0 0]
 ·intro i b hb;have hi:i=0:=by
   rcases Nat.lt_or_ge i 1 with h'|h'
   ·omega
   ·rw[List.getElem?_eq_none (by simpa[sS,nM]using h')]at hb;cases hb
  subst hi;simp only[sS,nM,List.getElem?_cons_zero,sIz]at hb;subst hb;refine⟨_,rfl,rfl,rfl,fun _=>rfl,fun m=> ?_⟩;simp only[dens,h,h2,den]
theorem chain_split{P:Program}{E:ExtF}{O:OracleF}{n:Nat}{c:Code}:∀{l:List Code}{s s2:St},chain P E O n (l++ [c]) s=some s2->∃s1,chain P E O n l s=some s1/\(run P E O n).2 c s1=some (.normal,s2)
 | [], s, s2, h => by
   refine⟨s,rfl,?_⟩;simp only[List.nil_append,chain]at h;split at h
   ·rename_i s1 h1;simp only[sIz]at h;subst h;exact h1
   ·cases h
 | a :: l, s, s2, h => by
   simp only[List.cons_append,chain]at h;split at h
   ·rename_i s1 h1;obtain⟨s3,h3,h4⟩:=chain_split h;refine⟨s3,?_,h4⟩;simp only[chain,h1];exact h3
   ·cases h
theorem retR_some{P:Program}{fn:Func}{r:Option (Ex×St)}{x:SV}{ob:Obs}(h:retR P fn r=some (x,ob)):∃s,r=some (.ret,s)/\resultS P fn s=some x/\s.ob=ob:=by
 unfold retR at h;split at h
 ·rename_i s;split at h
  ·rename_i y hy;simp only[sIz,pIz]at h;obtain⟨rfl,rfl⟩:=h;exact⟨s,rfl,hy,rfl⟩
  ·cases h
 ·cases h
theorem sqBody:Tryz.f93.body=some cS:=by kernel_rfl
theorem sqrt_join{x:F}{up:Bool}{l:List Bool}{c1 c2:SV}{N1 N2:Int}{n:Nat}{ob o2:Obs}{d:Dec}{y:SV}{val:Value}{m:Bool}(a1:0<=N1)(a2:0<=N2/\N2<=18446744073709551615)(hn:wn N1 N2=n)
  (hc1:∀m,den m c1=some (.int .u64 N1)) (hc2:∀m,den m c2=some (.int .u64 N2))
  (hh:hL KR JR lzI x up l=some (sS (vH (hL KR JR lzI x up l)) (wH (hL KR JR lzI x up l)) (.i .u64 0) (.i .u64 9223372036854775808) (nM c1 c2) d ob)) (ho:obsB ob=true)
  (ht:∀w,retR prog Tryz.f93 ((run prog EG (OGS KR JR lzI) 40).2 cB (sS (vH (hL KR JR lzI x up l)) w (.si .u64 ((root64 n:Nat):Int)) (.si .u64 0) (nM (.si .u64 N1) (.si .u64 N2)) (some [m]) []))=some (y,o2)) (ho2:obsB o2=true) (hy:plain y=some val) (w:World) :
  Calls prog 93 #[.float .f64 x.b,.bool up] w fun e w'=>e= .returned val/\Below w.heap.size w w':=by
 generalize vH (hL KR JR lzI x up l)=v at*;generalize wH (hL KR JR lzI x up l)=w0 at*;unfold hL at hh;obtain⟨s7,h7,h8⟩:=chain_split hh;have r8:=RunsTo.of goodG oracleGS h8 (ObsOk.of_B ho);have o7:ObsOk s7.ob:=((run_ok goodG oracleGS 40).2.1 _ _ _ _ h8).1.ok (ObsOk.of_B ho);obtain⟨w',hw⟩:=rounds_ok a1 a2 hn 64 0 ⟨0,by simp⟩ (by decide) v w0 d ob;have rl:=RunsTo.block (RunsTo.loop hw);have rl2:=rl.retell (t:=sS v w0 (.i .u64 0) (.i .u64 9223372036854775808) (nM c1 c2) d ob) (same_head v w0 c1 c2 N1 N2 d ob hc1 hc2);obtain⟨s10,h10,hx,hob⟩:=retR_some (ht w');have r10:=(RunsTo.of goodG oracleGS h10 (by rw[hob];exact ObsOk.of_B ho2)).retell (t:=sS v w' (.si .u64 ((root64 n:Nat):Int)) (.si .u64 0) (nM (.si .u64 N1) (.si .u64 N2)) none []) (SameSt.same _ _ _ _ _ _);have all:=chain_ok goodG oracleGS h7 o7 ((r8.seq rl2).seq r10);rw[<-cS_eq]at all;exact calls_of_runs (args:=[.fl x,.b up]) (vs:=[.float .f64 x.b,.bool up]) Tryz.func93 sqBody (all.retell (SameSt.same _ _ _ _ _ _)) hx rfl hy w
theorem tm_odd(e:Int):(!(e.tmod 2==0))=decide (e%2≠0):=by
 have h:e.tmod 2=0↔e%2=0:=by rw[<-Int.dvd_iff_tmod_eq_zero,Int.dvd_iff_emod_eq_zero]
 rw[Bool.eq_iff_iff];simp only[Bool.not_eq_true',beq_eq_false_iff_ne,ne_eq,decide_eq_true_eq,h]
theorem td_half{e:Int}(h:e%2=0):e.tdiv 2=e/2:=Int.tdiv_eq_ediv_of_dvd (Int.dvd_iff_emod_eq_zero.2 h)
theorem neq_wn{N1 N2:Int}{m:Nat}(hm:m<W128)(a1:0<=N1/\N1<=18446744073709551615)(a2:0<=N2/\N2<=18446744073709551615):(!(hi m==N1&&(lo m==N2&&true)))=decide (m≠wn N1 N2):=by unfold wn hi lo;rw[Bool.eq_iff_iff];simp only[Bool.not_eq_true',Bool.and_true,Bool.and_eq_false_iff,beq_eq_false_iff_ne,ne_eq,decide_eq_true_eq];omega
theorem eS_eq(x:F):eS KR lzI x=(ex x:Int)-1074-nlz (mn x)-64:=by have h1:=ex_le x;have h3:=nlz_le (mn x);unfold eS;show IntKind.i64.wrap (IntKind.i64.wrap ((ex x:Int)-1074-lzI (mn x))-64)=_;rw[lzI_mn,Bu.wrap_small (n:=(ex x:Int)-1074-nlz (mn x)) (by omega) (by omega),Bu.wrap_small (by omega) (by omega)]
theorem sqrt_F_w(x:F)(up:Bool)(w:World) :
  Calls prog 93 #[.float .f64 x.b,.bool up] w fun e w'=>e= .returned (.tuple #[.float .f64 (qSqrt up x).1.b,.int .i64 (qSqrt up x).2])/\Below w.heap.size w w':=by
 unfold qSqrt;by_cases h1:x.k<0
 ·rw[if_pos h1];exact calls_of_val goodG oracleGS 60 (sqRun0 KR JR lzI x up) (ObsOk.of_B (obsB_yes (by rw[zero_k'];exact dT h1) obsB_nil)) rfl rfl w
 rw[if_neg h1];have n1:decide (x.k<(toF 0).k)=false:=by rw[zero_k'];exact dF h1
 by_cases h2:x.k=0
 ·rw[if_pos h2];exact calls_of_val goodG oracleGS 60 (sqRun1 KR JR lzI x up) (ObsOk.of_B (obsB_yes (by rw[zero_k'];exact dT h2) (obsB_yes n1 obsB_nil))) rfl rfl w
 rw[if_neg h2];have n2:decide (x.k=(toF 0).k)=false:=by rw[zero_k'];exact dF h2
 have hpos:0<x.k:=by omega
 obtain⟨X,p,q,hP,hX⟩:=sqP hpos;have hb:=norm_bounds (mn_pos h2) (mn_64 x);have hM:9223372036854775808<=divM x/\divM x<18446744073709551616:=hb;have hS:nS KR lzI x=divM x:=nA_eq h2;have e1:=ex_le x;have e3:=nlz_le (mn x);have hE:=eS_eq x;have hev:=sqE_even x;have hre:-5000<=sqE x/2/\sqE x/2<=5000:=by unfold sqE;split<;>omega
 have hXl:X<18446744073709551616:=by
  rcases Nat.lt_or_ge X 18446744073709551616 with c|c
  ·exact c
  ·exfalso
   have k1:=Nat.mul_le_mul c c;have k2:=hP.root.le;have k3:sqN x<W128:=by have:W128=340282366920938463463374607431768211456:=rfl;unfold sqN;split<;>omega
   have e:W128=18446744073709551616*18446744073709551616:=rfl;omega
 have hXX:X*X<W128:=by have e:W128=18446744073709551616*18446744073709551616:=rfl;rw[e];exact Nat.mul_lt_mul'' hXl hXl
 have uX:u64B ((X:Nat):Int)=true:=u64_mk (by omega) (by omega);have lz0:decide (0<=lzI (KR.mn x))=true:=by show decide (0<=lzI (mn x))=true;rw[lzI_mn];exact dT (by omega)
 have sg0:KR.sg x=false:=dF (by omega);have hw0:∀m e,rndG false (wn 0 ((X:Nat):Int)) m e up=rndG false X m e up:=by
  intro m e;have:wn 0 ((X:Nat):Int)=X:=by unfold wn;rw[tN];omega
  rw[this]
 cases ho:sqO x
 ·-- even
  have hN:sqN x=divM x*18446744073709551616:=by unfold sqN;rw[ho];rfl
  have hEv:sqE x=(ex x:Int)-1074-nlz (mn x)-64:=by unfold sqE;rw[ho];rfl
  have hee:IntKind.i64.wrap ((eS KR lzI x).tdiv 2)=sqE x/2:=by rw[hE,<-hEv,td_half hev,Bu.wrap_small (by omega) (by omega)]
  have hodd:(!((eS KR lzI x).tmod 2==0))=false:=by rw[tm_odd,hE,<-hEv];exact dF (by omega)
  have hwn:wn ((divM x:Nat):Int) 0=sqN x:=by rw[hN];unfold wn;rw[tN,Int.toNat_zero,Nat.add_zero]
  have hh:=headE KR JR lzI x up;rw[hS]at hh;have hd:dSqrt up x=rndG false (wn 0 ((X:Nat):Int)) (decide (X*X≠sqN x)) (sqE x/2) up:=by rw[hw0];unfold dSqrt;rw[hX]
  rw[hd];refine sqrt_join (o2:=obT KR JR ((X:Nat):Int) ((divM x:Nat):Int) 0 (sqE x/2) (decide (X*X≠sqN x))) (y:= .tup [.fl (rndG false (wn 0 ((X:Nat):Int)) (decide (X*X≠sqN x)) (sqE x/2) up).1,.si .i64 (rndG false (wn 0 ((X:Nat):Int)) (decide (X*X≠sqN x)) (sqE x/2) up).2]) (m:=decide (X*X≠sqN x)) (n:=sqN x) (N1:=((divM x:Nat):Int)) (N2:=0) (by omega) ⟨by omega,by omega⟩ hwn (fun m=>by simp only[den]) (fun m=>by simp only[den]) hh ?_ (fun w'=> ?_) ?_ rfl w
  ·exact obsB_yes hodd (obsB_yes lz0 (obsB_yes (mn_u64 x) (obsB_yes sg0 (obsB_yes n2 (obsB_yes n1 obsB_nil)))))
  ·rw[hX];have:=tailE KR JR lzI x up w' ((X:Nat):Int) ((divM x:Nat):Int) 0 (decide (X*X≠sqN x));rw[hee]at this;exact this
  ·refine obsB_yes u64_0 (obsB_yes uX (obsB_yes (dT hre) (obsB_yes ?_ (obsB_yes uX obsB_nil))));show(!(mulH _ _==_&&(mulL _ _==_&&true)))=_;rw[(mulI X).1,(mulI X).2,neq_wn hXX ⟨by omega,by omega⟩ ⟨by omega,by omega⟩,hwn]
 ·-- odd
  have hN:sqN x=divM x*9223372036854775808:=by unfold sqN;rw[ho];rfl
  have hEv:sqE x=(ex x:Int)-1074-nlz (mn x)-63:=by unfold sqE;rw[ho];rfl
  have hee:IntKind.i64.wrap ((IntKind.i64.wrap (eS KR lzI x+1)).tdiv 2)=sqE x/2:=by rw[hE,Bu.wrap_small (n:=(ex x:Int)-1074-nlz (mn x)-64+1) (by omega) (by omega),show(ex x:Int)-1074-nlz (mn x)-64+1=sqE x from by omega,td_half hev,Bu.wrap_small (by omega) (by omega)]
  have hodd:(!((eS KR lzI x).tmod 2==0))=true:=by rw[tm_odd,hE];exact dT (by omega)
  have hwd:wn ((divM x:Nat):Int) 0/2^(1:Int).toNat=sqN x/\wn ((divM x:Nat):Int) 0%2^(1:Int).toNat=0:=by rw[hN];unfold wn;rw[tN,show(1:Int).toNat=1 from rfl];constructor<;>omega
  have hDh:KR.dh (nS KR lzI x) 0 1=hi (sqN x):=by rw[hS];show hi (wn _ _/_)=_;rw[hwd.1]
  have hDl:KR.dl (nS KR lzI x) 0 1=lo (sqN x):=by rw[hS];show lo (wn _ _/_)=_;rw[hwd.1]
  have hDm:KR.dm (nS KR lzI x) 0 1=false:=by rw[hS];show decide (wn _ _%_≠0)=_;rw[hwd.2];rfl
  have hNl:sqN x<W128:=by have:W128=340282366920938463463374607431768211456:=rfl;omega
  have hh:=headO KR JR lzI x up;rw[hDh,hDl]at hh;have hd:dSqrt up x=rndG false (wn 0 ((X:Nat):Int)) (decide (X*X≠sqN x)) (sqE x/2) up:=by rw[hw0];unfold dSqrt;rw[hX]
  rw[hd];have b1:=hi_nonneg (sqN x);have b2:=hi_le _ hNl;have b3:=lo_nonneg (sqN x);have b4:=lo_le (sqN x);refine sqrt_join (o2:=obT KR JR ((X:Nat):Int) (hi (sqN x)) (lo (sqN x)) (sqE x/2) (decide (X*X≠sqN x))) (y:= .tup [.fl (rndG false (wn 0 ((X:Nat):Int)) (decide (X*X≠sqN x)) (sqE x/2) up).1,.si .i64 (rndG false (wn 0 ((X:Nat):Int)) (decide (X*X≠sqN x)) (sqE x/2) up).2]) (m:=decide (X*X≠sqN x)) (n:=sqN x) (N1:=hi (sqN x)) (N2:=lo (sqN x)) b1 ⟨b3,b4⟩ (wn_back _) (fun m=>by simp only[den]) (fun m=>by simp only[den]) hh ?_ (fun w'=> ?_) ?_ rfl w
  ·exact obsB_yes (by rw[hS];exact u64_mk (by omega) (by omega)) (obsB_yes u64_0 (obsB_yes rfl (obsB_yes hDm (obsB_yes hodd (obsB_yes lz0 (obsB_yes (mn_u64 x) (obsB_yes sg0 (obsB_yes n2 (obsB_yes n1 obsB_nil)))))))))
  ·rw[hX];have:=tailO KR JR lzI x up w' ((X:Nat):Int) (hi (sqN x)) (lo (sqN x)) (decide (X*X≠sqN x));rw[hee]at this;exact this
  ·refine obsB_yes u64_0 (obsB_yes uX (obsB_yes (dT hre) (obsB_yes ?_ (obsB_yes uX obsB_nil))));show(!(mulH _ _==_&&(mulL _ _==_&&true)))=_;rw[(mulI X).1,(mulI X).2,neq_wn hXX ⟨b1,b2⟩ ⟨b3,b4⟩,wn_back]
def OGT(K:Kt):OracleF:=lookO [(42,kC (aII K.add)),(39,kC (aII K.sub)),(28,kC (aII K.mul)),(65,kC (aII K.div)),(40,kC (aI K.sqr)),(35,kC (aF K.num))]
theorem pdivG:PlainOk prog 141 (kTwo pDiv):=two_ok div_F_w
theorem nextG:PlainOk prog 83 (kNx nextF):=by
 intro args ds x ds' ob h1 ho;unfold kNx at h1;split at h1
 ·rename_i x up;simp only[sIz,pIz]at h1;obtain⟨rfl,_,_⟩:=h1;exact⟨[.float .f64 x.b,.bool up],_,rfl,rfl,fun w=>next_F x up w⟩
 ·cases h1
theorem addC:OfOk prog 42 (kC (aII KTR.add)):=cadd_I (two_ok add_F_w)
theorem subC:OfOk prog 39 (kC (aII KTR.sub)):=csub_I (two_ok sub_F_w)
theorem mulC:OfOk prog 28 (kC (aII KTR.mul)):=cmul_I (two_ok mul_F_w)
theorem divC:OfOk prog 65 (kC (aII KTR.div)):=cdiv_I pdivG
theorem sqrC:OfOk prog 40 (kC (aI KTR.sqr)):=csqr_I (two_ok mul_F_w)
theorem numC:OfOk prog 35 (kC (aF KTR.num)):=cnum_I
theorem negC:OfOk prog 109 (kC (aI KTR.neg)):=cneg_I
theorem oracleGT:OracleOk prog (OGT KTR):= .cons addC (.cons subC (.cons mulC (.cons divC (.cons sqrC (.cons numC (.nil _))))))
theorem row20Run(K:Kt)(a b:F)(t:Nat)(n:Int):takeR 1 ((run prog EG (OGT K) 100).1 306 [.p 0 0,.agg [.fl a,.fl b],.i .i64 20] [⟨t,[.si .i64 n],.ex⟩] (some []))=
  some (.agg [.fl (row20 K n ⟨a,b⟩).1.lo,.fl (row20 K n ⟨a,b⟩).1.hi],[⟨t,[.si .i64 (row20 K n ⟨a,b⟩).2],.ex⟩],some [],[]):=by kernel_rfl
theorem row19Run(K:Kt)(a b:F)(t:Nat)(n:Int):takeR 1 ((run prog EG (OGT K) 100).1 306 [.p 0 0,.agg [.fl a,.fl b],.i .i64 19] [⟨t,[.si .i64 n],.ex⟩] (some []))=
  some (.agg [.fl (row19 K n ⟨a,b⟩).1.lo,.fl (row19 K n ⟨a,b⟩).1.hi],[⟨t,[.si .i64 (row19 K n ⟨a,b⟩).2],.ex⟩],some [],[]):=by kernel_rfl
theorem pair_eta(r:I×Int):r=(⟨r.1.lo,r.1.hi⟩,r.2):=rfl
theorem plain_si(k:IntKind)(n:Int):plain (.si k n)=some (.int k n):=rfl
theorem calc_flow{O:OracleF}(hO:OracleOk prog O){k:Nat}{g:FuncId}{args:List SV}{t:Nat}{n:Int}{ds ds':Dec}{ob:Obs}(r:I×Int)
  (h:takeR 1 ((run prog EG O k).1 g (.p 0 0::args) [⟨t,[.si .i64 n],.ex⟩] ds)=some (.agg [.fl r.1.lo,.fl r.1.hi],[⟨t,[.si .i64 r.2],.ex⟩],ds',ob)) (ho:obsB ob=true):CalcAt prog g args t n r:=
 calc_path goodG hO h ho (pair_eta r) (plain_si _ _)
theorem rowC_of(R:Kr)(h20:∀a b t n,CalcAt prog 306 [.agg [.fl a,.fl b],.i .i64 20] t n (R.r20 n ⟨a,b⟩))(h19:∀a b t n,CalcAt prog 306 [.agg [.fl a,.fl b],.i .i64 19] t n (R.r19 n ⟨a,b⟩)):OfOk prog 306 (kC (aRow R)):=by
 refine ofCalc fun l f hf t n=> ?_;unfold aRow at hf;split at hf
 ·rename_i a b m;split at hf
  ·rename_i e;have e1:Int.ofNat m=20:=by rw[Nat.eq_of_beq_eq_true e];rfl
   rw[e1];simp only[sIz]at hf;subst hf;exact h20 a b t n
  ·split at hf
   ·rename_i e;have e1:Int.ofNat m=19:=by rw[Nat.eq_of_beq_eq_true e];rfl
    rw[e1];simp only[sIz]at hf;subst hf;exact h19 a b t n
   ·cases hf
 ·cases hf
theorem row20C(a b:F)(t:Nat)(n:Int):CalcAt prog 306 [.agg [.fl a,.fl b],.i .i64 20] t n (row20 KTR n ⟨a,b⟩):=calc_flow oracleGT _ (row20Run KTR a b t n) obsB_nil
theorem row19C(a b:F)(t:Nat)(n:Int):CalcAt prog 306 [.agg [.fl a,.fl b],.i .i64 19] t n (row19 KTR n ⟨a,b⟩):=calc_flow oracleGT _ (row19Run KTR a b t n) obsB_nil
theorem rowC:OfOk prog 306 (kC (aRow KRR)):=rowC_of ⟨row20 KTR,row19 KTR⟩ row20C row19C
def OIM:OracleF:=lookO []
theorem oracleIM:OracleOk prog OIM:= .nil _
theorem withRun0(a b:F):valR ((run prog EG OIM 60).1 307 [.agg [.fl a,.fl b]] [] (some [true]))=some (.agg [.fl F.zero,.fl F.zero],some [],[(decide ((mnF b one64).k<(mxF a mone64).k),true)]):=by kernel_rfl
theorem withRun1(a b:F):valR ((run prog EG OIM 60).1 307 [.agg [.fl a,.fl b]] [] (some [false]))=some (.agg [.fl (mxF a mone64),.fl (mnF b one64)],some [],[(decide ((mnF b one64).k<(mxF a mone64).k),false)]):=by kernel_rfl
theorem withG:PlainOk prog 307 (oI1 withI):=by
 intro args ds x ds' ob h ho;unfold oI1 at h;split at h
 ·rename_i a b;simp only[sIz,pIz]at h;obtain⟨rfl,_,_⟩:=h;refine⟨[.agg #[.float .f64 a.b,.float .f64 b.b]],_,rfl,rfl,fun w=> ?_⟩;cases h1:decide ((mnF b one64).k<(mxF a mone64).k)
  ·rw[show withI ⟨a,b⟩=⟨mxF a mone64,mnF b one64⟩from by simp only[withI,h1,cF]];exact calls_of_val goodG oracleIM 60 (withRun1 a b) (ObsOk.of_B (obsB_yes h1 obsB_nil)) rfl rfl w
  ·rw[show withI ⟨a,b⟩=⟨F.zero,F.zero⟩from by simp only[withI,I.zero,h1,cT]];exact calls_of_val goodG oracleIM 60 (withRun0 a b) (ObsOk.of_B (obsB_yes h1 obsB_nil)) rfl rfl w
 ·cases h
def OAT(K:Kt)(R:Kr)(W:I->I):OracleF:=lookO [(83,plainO (kNx K.nx)),(42,kC (aII K.add)),(39,kC (aII K.sub)),(28,kC (aII K.mul)),(109,kC (aI K.neg)),(35,kC (aF K.num)),(306,kC (aRow R)),(307,plainO (oI1 W))]
theorem oracleAT:OracleOk prog (OAT KTR KRR withI):= .cons nextG.of (.cons addC (.cons subC (.cons mulC (.cons negC (.cons numC (.cons rowC (.cons withG.of (.nil _))))))))
theorem atRun1(K:Kt)(R:Kr)(W:I->I)(x:F):valR ((run prog EG (OAT K R W) 100).1 237 [.fl x] [] (some [true,true,true]))=some (.agg [.fl (atP K R W 0 (toF 0) x).1.lo,.fl (atP K R W 0 (toF 0) x).1.hi,.fl (atP K R W 0 (toF 0) x).2.lo,.fl (atP K R W 0 (toF 0) x).2.hi],some [],[(true,true),(true,true),(decide (x.k<c1.k),true),(true,true),(true,true),(decide (x.k<c3.k),true),(true,true),(true,true),(decide (x.k<c5.k),true),(true,true),(true,true)]):=by kernel_rfl
theorem atRun2(K:Kt)(R:Kr)(W:I->I)(x:F):valR ((run prog EG (OAT K R W) 100).1 237 [.fl x] [] (some [true,true,false]))=some (.agg [.fl (atP K R W 1 q1 x).1.lo,.fl (atP K R W 1 q1 x).1.hi,.fl (atP K R W 1 q1 x).2.lo,.fl (atP K R W 1 q1 x).2.hi],some [],[(true,true),(true,true),(decide (x.k<c1.k),false),(true,true),(true,true),(decide (x.k<c3.k),true),(true,true),(true,true),(decide (x.k<c5.k),true),(true,true),(true,true)]):=by kernel_rfl
theorem atRun3(K:Kt)(R:Kr)(W:I->I)(x:F):valR ((run prog EG (OAT K R W) 100).1 237 [.fl x] [] (some [true,false]))=some (.agg [.fl (atP K R W 2 q2 x).1.lo,.fl (atP K R W 2 q2 x).1.hi,.fl (atP K R W 2 q2 x).2.lo,.fl (atP K R W 2 q2 x).2.hi],some [],[(true,true),(true,true),(decide (x.k<c3.k),false),(true,true),(true,true),(decide (x.k<c5.k),true),(true,true),(true,true)]):=by kernel_rfl
theorem atRun4(K:Kt)(R:Kr)(W:I->I)(x:F):valR ((run prog EG (OAT K R W) 100).1 237 [.fl x] [] (some [false,true]))=some (.agg [.fl (atP K R W 3 q3 x).1.lo,.fl (atP K R W 3 q3 x).1.hi,.fl (atP K R W 3 q3 x).2.lo,.fl (atP K R W 3 q3 x).2.hi],some [],[(true,true),(true,true),(decide (x.k<c7.k),true),(true,true),(true,true),(decide (x.k<c5.k),false),(true,true),(true,true)]):=by kernel_rfl
theorem atRun5(K:Kt)(R:Kr)(W:I->I)(x:F):valR ((run prog EG (OAT K R W) 100).1 237 [.fl x] [] (some [false,false]))=some (.agg [.fl (atP K R W 0 one64 x).1.lo,.fl (atP K R W 0 one64 x).1.hi,.fl (atP K R W 0 one64 x).2.lo,.fl (atP K R W 0 one64 x).2.hi],some [],[(true,true),(true,true),(decide (x.k<c7.k),false),(true,true),(true,true),(decide (x.k<c5.k),false),(true,true),(true,true)]):=by kernel_rfl
theorem atG:PlainOk prog 237 (kAt atR):=by
 intro args ds x ds' ob h ho;unfold kAt at h;split at h
 ·rename_i x;simp only[sIz,pIz]at h;obtain⟨rfl,_,_⟩:=h;refine⟨[.float .f64 x.b],_,rfl,rfl,fun w=> ?_⟩;cases h5:decide (x.k<c5.k)
  ·cases h7:decide (x.k<c7.k)
   ·skip
    rw[show atR x=_ from(by simp only[atR,atM,h7,h5,cT,cF]:atR x=atP KTR KRR withI 0 one64 x)];exact calls_of_val goodG oracleAT 100 (atRun5 KTR KRR withI x) (ObsOk.of_B (obsB_yes rfl (obsB_yes rfl (obsB_yes h7 (obsB_yes rfl (obsB_yes rfl (obsB_yes h5 (obsB_yes rfl (obsB_yes rfl obsB_nil))))))))) rfl rfl w
   ·skip
    rw[show atR x=_ from(by simp only[atR,atM,h7,h5,cT,cF]:atR x=atP KTR KRR withI 3 q3 x)];exact calls_of_val goodG oracleAT 100 (atRun4 KTR KRR withI x) (ObsOk.of_B (obsB_yes rfl (obsB_yes rfl (obsB_yes h7 (obsB_yes rfl (obsB_yes rfl (obsB_yes h5 (obsB_yes rfl (obsB_yes rfl obsB_nil))))))))) rfl rfl w
  ·cases h3:decide (x.k<c3.k)
   ·skip
    rw[show atR x=_ from(by simp only[atR,atM,h3,h5,cT,cF]:atR x=atP KTR KRR withI 2 q2 x)];exact calls_of_val goodG oracleAT 100 (atRun3 KTR KRR withI x) (ObsOk.of_B (obsB_yes rfl (obsB_yes rfl (obsB_yes h3 (obsB_yes rfl (obsB_yes rfl (obsB_yes h5 (obsB_yes rfl (obsB_yes rfl obsB_nil))))))))) rfl rfl w
   ·cases h1:decide (x.k<c1.k)
    ·skip
     rw[show atR x=_ from(by simp only[atR,atM,h1,h3,h5,cT,cF]:atR x=atP KTR KRR withI 1 q1 x)];exact calls_of_val goodG oracleAT 100 (atRun2 KTR KRR withI x) (ObsOk.of_B (obsB_yes rfl (obsB_yes rfl (obsB_yes h1 (obsB_yes rfl (obsB_yes rfl (obsB_yes h3 (obsB_yes rfl (obsB_yes rfl (obsB_yes h5 (obsB_yes rfl (obsB_yes rfl obsB_nil)))))))))))) rfl rfl w
    ·skip
     rw[show atR x=_ from(by simp only[atR,atM,h1,h3,h5,cT,cF]:atR x=atP KTR KRR withI 0 (toF 0) x)];exact calls_of_val goodG oracleAT 100 (atRun1 KTR KRR withI x) (ObsOk.of_B (obsB_yes rfl (obsB_yes rfl (obsB_yes h1 (obsB_yes rfl (obsB_yes rfl (obsB_yes h3 (obsB_yes rfl (obsB_yes rfl (obsB_yes h5 (obsB_yes rfl (obsB_yes rfl obsB_nil)))))))))))) rfl rfl w
 ·cases h
def OSI(f:F->I×I):OracleF:=lookO [(67,plainO oRt),(140,plainO oHas),(157,plainO (oI2 hullI)),(237,plainO (kAt f))]
theorem oracleSI:OracleOk prog (OSI atR):= .cons irightG.of (.cons ihasG.of (.cons hullG.of (.cons atG.of (.nil _))))
def noSC:SV:= .tup [.agg [.fl F.zero,.fl F.zero],.agg [.fl F.zero,.fl F.zero],.i .i64 2]
theorem scRun0(f:F->I×I)(a b:F):valR ((run prog EG (OSI f) 100).1 161 [.agg [.fl a,.fl b]] [] (some [false]))=some (noSC,some [],[(rt ⟨a,b⟩,false)]):=by kernel_rfl
theorem scRun1(f:F->I×I)(a b:F):valR ((run prog EG (OSI f) 100).1 161 [.agg [.fl a,.fl b]] [] (some [true,true]))=some (noSC,some [],[(decide (a.k<(toF 0).k),true),(rt ⟨a,b⟩,true)]):=by kernel_rfl
theorem scRun2(f:F->I×I)(a b:F):valR ((run prog EG (OSI f) 100).1 161 [.agg [.fl a,.fl b]] [] (some [true,false,true]))=some (noSC,some [],[(decide (one64.k<b.k),true),(decide (a.k<(toF 0).k),false),(rt ⟨a,b⟩,true)]):=by kernel_rfl
theorem scRun3(f:F->I×I)(a b:F)(h1 h2 h3:Bool):valR ((run prog EG (OSI f) 100).1 161 [.agg [.fl a,.fl b]] [] (some [true,false,false,h1,h3,h2]))=
  some (.tup [.agg [.fl (sinT f h1 h3 a b).lo,.fl (sinT f h1 h3 a b).hi],.agg [.fl (cosT f h2 a b).lo,.fl (cosT f h2 a b).hi],.i .i64 0],some [],
   [(hasB ⟨a,b⟩ q2,h2),(hasB ⟨a,b⟩ q3,h3),(hasB ⟨a,b⟩ q1,h1),(decide (one64.k<b.k),false),(decide (a.k<(toF 0).k),false),(rt ⟨a,b⟩,true)]):=by cases h1<;>cases h2<;>cases h3<;>kernel_rfl
theorem scG:PlainOk prog 161 (oSC atR):=by
 intro args ds x ds' ob h ho;unfold oSC at h;split at h
 ·rename_i a b;simp only[mIz,pIz]at h;obtain⟨⟨d,e,o⟩,h1,rfl,rfl,rfl⟩:=h;have hd:d=inB a b:=takeB_ok h1 ho;cases hi:inB a b
  ·rw[hi]at hd;subst hd;refine⟨[.agg #[.float .f64 a.b,.float .f64 b.b]],_,rfl,rfl,fun w=> ?_⟩;cases g1:rt ⟨a,b⟩
   ·exact calls_of_val goodG oracleSI 100 (scRun0 atR a b) (ObsOk.of_B (obsB_yes g1 obsB_nil)) rfl rfl w
   ·cases g2:decide (a.k<(toF 0).k)
    ·refine calls_of_val goodG oracleSI 100 (scRun2 atR a b) (ObsOk.of_B (obsB_yes ?_ (obsB_yes g2 (obsB_yes g1 obsB_nil)))) rfl rfl w;have g3:=of_decide_eq_false g2;unfold inB at hi;rw[g1,show decide ((toF 0).k<=a.k)=true from dT (by omega),Bool.true_and,Bool.true_and]at hi;have g4:=of_decide_eq_false hi;exact dT (by omega)
    ·exact calls_of_val goodG oracleSI 100 (scRun1 atR a b) (ObsOk.of_B (obsB_yes g2 (obsB_yes g1 obsB_nil))) rfl rfl w
  ·rw[hi]at hd;subst hd;refine⟨[.agg #[.float .f64 a.b,.float .f64 b.b]],_,rfl,rfl,fun w=> ?_⟩;unfold inB at hi;rw[aTz,aTz,decide_eq_true_iff,decide_eq_true_iff]at hi;exact calls_of_val goodG oracleSI 100 (scRun3 atR a b _ _ _) (ObsOk.of_B (obsB_yes rfl (obsB_yes rfl (obsB_yes rfl (obsB_yes (dF (by omega)) (obsB_yes (dF (by omega)) (obsB_yes hi.1.1 obsB_nil))))))) rfl rfl w
 ·cases h
theorem constG{P:Program}{g:FuncId}{x:SV}{v:Value}(hx:plain x=some v)(h:∀w,Calls P g #[] w fun e w'=>e= .returned v/\Below w.heap.size w w'):PlainOk P g (oConst x):=by
 intro args ds y ds' ob hk ho;unfold oConst at hk;split at hk
 ·simp only[sIz,pIz]at hk;obtain⟨rfl,_,_⟩:=hk;exact⟨[],v,rfl,hx,h⟩
 ·cases hk
theorem scK:PlainOk prog 161 (kSC (NR atR).ib (NR atR).si (NR atR).co):=scG
theorem irtK:PlainOk prog 67 (kBI rt):=irightG
end Go.Proofs.YtejcekikbnlllaaGreat
namespace Go.Proofs.YtejcekikbnlllaaGreat
open Go.RowKit Bu
theorem unit_back(u:Nat)(hu:u<18446744073709551616):(IntKind.u64.wrap ((u:Int)/2^unitCut u*2^unitCut u)==(u:Int))=decide (u%2^unitCut u=0):=by
 have hd:=Nat.div_add_mod u (2^unitCut u);have e1:(u:Int)/2^unitCut u*2^unitCut u=((u/2^unitCut u*2^unitCut u:Nat):Int):=by simp
 rw[e1,IntKind.wrap_u64];rw[Nat.mul_comm]at hd;generalize u/2^unitCut u*2^unitCut u=a at*;generalize u%2^unitCut u=r at*;rw[Bool.eq_iff_iff];simp only[beq_iff_eq,decide_eq_true_eq];omega
@[go_sem] theorem run_store_float{P:Program}{w:World}{a:Addr}{m:Mode}(k:FloatKind)(b:Nat):(store a (.float k b) m).run P w=stored P w a (.float k b) m:=run_store P w a _ m rfl
def ivV(a:Iv):Value:= .agg #[.float .f64 a.lo.b,.float .f64 a.hi.b]
theorem unit_pack(u:Nat)(hu:u<18446744073709551616):∃(c:Nat)(x0 y0:F),unitCut u=c/\c<=11/\floatOfInt .f64 ((u:Int)/2^c)=x0.b/\Sc x0 y0 ((c:Int)-64)/\unitLo u=y0:=by
 obtain⟨g1,g2,g3⟩:=unit_m u (by omega);have h1:=Sc_dy (u/2^unitCut u) ((unitCut u:Int)-64) (by have:P=4503599627370496:=rfl;omega) (by omega) (by have:=blen_m g2;omega);have h2:floatOfInt .f64 ((u:Int)/2^unitCut u)=(F.dy (u/2^unitCut u) 0).b:=by have h:=floatOfInt_dy (u/2^unitCut u) (by have:P=4503599627370496:=rfl;omega);rw[<-h];simp
 exact⟨unitCut u,_,_,rfl,g1,h2,h1,rfl⟩
theorem unitOf_a{u:Nat}{y0:F}(h:unitLo u=y0)(hx:u%2^unitCut u=0):unitOf u=⟨y0,y0⟩:=by unfold unitOf;rw[if_pos hx,h]
theorem unitOf_b{u:Nat}{y0:F}(h:unitLo u=y0)(hx:¬u%2^unitCut u=0):unitOf u=⟨y0,(nextF y0 true).1⟩:=by unfold unitOf;rw[if_neg hx,h]
set_option maxHeartbeats 1000000 in
theorem unitOf_w(u:Nat)(hu:(u:Int)<=18446744073709551615)(w:World) :
  Calls prog 70 #[.int .u64 u] w fun e w'=>e= .returned (ivV (unitOf u))/\Below w.heap.size w w':=by
 obtain⟨c,x0,y0,g0,g1,HC,hsc,hlo⟩:=unit_pack u (by omega);have HSc:=Lib.hid hsc;have hb:=unit_back u (by omega);have ha:=fun h=>unitOf_a (u:=u) hlo h;have hbb':=fun h=>unitOf_b (u:=u) hlo h;rw[g0]at hb ha hbb';have hC2:max (wrap64 ((blen u:Int)-53)) 0=(c:Int):=by have hl:blen u<=64:=blen_le (by omega);rw[IntWalk.wrap64_in _ (by omega),<-g0];unfold unitCut;omega
 have H2:=Lib.hid hC2;clear hsc hlo g0 hC2;by_cases hx:u%2^c=0
 ·have T1:(IntKind.u64.wrap ((u:Int)/2^c*2^c)==(u:Int))=true:=by rw[hb];simpa using hx
  have HR:=Lib.hid (ha hx);clear hx ha hbb' hb
  go_enter Tryz.func70,Tryz.ntmps70
  go_upto_region 2 with(go_at_call 147;refine(len64_w _ _ (by omega)).mono ?_;rintro e w' ⟨rfl,rfl⟩)
  rw[H2.out]
  go_wp2_with (first|(go_at_call 148;refine(Ldexp_exact _ _ _ _ HSc.out).mono ?_;rintro e w' ⟨rfl,rfl⟩))
  refine bodyPost_ret (v:=ivV ⟨y0,y0⟩) (by simp[results,Tryz.results70,go_sem,ivV]) rfl ⟨?_,?_⟩
  ·rw[HR.out]
  ·exact(Below.refl _ _).alloc (Nat.le_refl _) _
 ·have T1:(IntKind.u64.wrap ((u:Int)/2^c*2^c)==(u:Int))=false:=by rw[hb];simpa using hx
  have HR:=Lib.hid (hbb' hx);clear hx ha hbb' hb
  go_enter Tryz.func70,Tryz.ntmps70
  go_upto_region 2 with(go_at_call 147;refine(len64_w _ _ (by omega)).mono ?_;rintro e w' ⟨rfl,rfl⟩)
  rw[H2.out]
  go_wp2_with (first|(go_at_call 148;refine(Ldexp_exact _ _ _ _ HSc.out).mono ?_;rintro e w' ⟨rfl,rfl⟩)|(go_at_call 83;refine(next_F _ _ _).mono ?_;rintro e w1 ⟨rfl,hbb⟩;obtain⟨hcc,hff⟩:=bcell hbb))
  have s5:w1.cell? ⟨w.heap.size,0,none⟩=some (.float .f64 0):=by(rw[hcc _ _ (by simp)];simp)
  have s6:w1.cell? ⟨w.heap.size,1,none⟩=some (.float .f64 0):=by(rw[hcc _ _ (by simp)];simp)
  refine bodyPost_ret (v:=ivV ⟨y0,(nextF y0 true).1⟩) (by simp[results,Tryz.results70,go_sem,ivV,s5,s6]) rfl ⟨?_,?_⟩
  ·rw[HR.out]
  ·exact((((Below.refl _ _).alloc (Nat.le_refl _) _).trans (hbb.mono (by simp))).setCell (by simp) _).setCell (by simp) _
end Go.Proofs.YtejcekikbnlllaaGreat
namespace Go.Proofs.YtejcekikbnlllaaGreat
open Go.RowKit Bu Rx
def kOne(f:Bool->F->F×Int):List SV->Dec->Option (SV×Dec×Obs)
 | [.fl x,.b up],ds=>some (.tup [.fl (f up x).1,.si .i64 (f up x).2],ds,[])
 |_,_=>none
theorem sqrtG:PlainOk prog 93 (kOne qSqrt):=by
 intro args ds x ds' ob h1 ho;unfold kOne at h1;split at h1
 ·rename_i x up;simp only[sIz,pIz]at h1;obtain⟨rfl,_,_⟩:=h1;exact⟨[.float .f64 x.b,.bool up],_,rfl,rfl,fun w=>sqrt_F_w x up w⟩
 ·cases h1
def OISq(f:Bool->F->F×Int):OracleF:=lookO [(67,plainO oRt),(93,plainO (kOne f))]
theorem oracleISq:OracleOk prog (OISq qSqrt):= .cons irightG.of (.cons sqrtG.of (.nil _))
theorem csqrt_p0(f:Bool->F->F×Int)(t:Nat)(n:Int)(a b:F):takeR 1 ((run prog EG (OISq f) 60).1 37 (.p 0 0:: [.agg [.fl a,.fl b]]) [⟨t,[.si .i64 n],.ex⟩] (some [true]))=some (.agg [.fl F.zero,.fl F.zero],[⟨t,[.si .i64 n],.ex⟩],some [],[((!(n==0)),true)]):=by kernel_rfl
theorem csqrt_p1(f:Bool->F->F×Int)(t:Nat)(n:Int)(a b:F):takeR 1 ((run prog EG (OISq f) 60).1 37 (.p 0 0:: [.agg [.fl a,.fl b]]) [⟨t,[.si .i64 n],.ex⟩] (some [false,false]))=some (.agg [.fl F.zero,.fl F.zero],[⟨t,[.i .i64 20],.ex⟩],some [],[(rt ⟨a,b⟩,false),((!(n==0)),false)]):=by kernel_rfl
theorem csqrt_p2(f:Bool->F->F×Int)(t:Nat)(n:Int)(a b:F):takeR 1 ((run prog EG (OISq f) 60).1 37 (.p 0 0:: [.agg [.fl a,.fl b]]) [⟨t,[.si .i64 n],.ex⟩] (some [false,true,true,true]))=some (.agg [.fl F.zero,.fl F.zero],[⟨t,[.si .i64 (f false a).2],.ex⟩],some [],[((!((f false a).2==0)),true),((!((f false a).2==0)),true),(rt ⟨a,b⟩,true),((!(n==0)),false)]):=by kernel_rfl
theorem csqrt_p3(f:Bool->F->F×Int)(t:Nat)(n:Int)(a b:F):takeR 1 ((run prog EG (OISq f) 60).1 37 (.p 0 0:: [.agg [.fl a,.fl b]]) [⟨t,[.si .i64 n],.ex⟩] (some [false,true,false,true]))=some (.agg [.fl F.zero,.fl F.zero],[⟨t,[.si .i64 (f true b).2],.ex⟩],some [],[((!((f true b).2==0)),true),((!((f false a).2==0)),false),(rt ⟨a,b⟩,true),((!(n==0)),false)]):=by kernel_rfl
theorem csqrt_p4(f:Bool->F->F×Int)(t:Nat)(n:Int)(a b:F):takeR 1 ((run prog EG (OISq f) 60).1 37 (.p 0 0:: [.agg [.fl a,.fl b]]) [⟨t,[.si .i64 n],.ex⟩] (some [false,true,false,false]))=some (.agg [.fl (f false a).1,.fl (f true b).1],[⟨t,[.si .i64 n],.ex⟩],some [],[((!((f true b).2==0)),false),((!((f false a).2==0)),false),(rt ⟨a,b⟩,true),((!(n==0)),false)]):=by kernel_rfl
theorem csqrt_I:OfOk prog 37 (kC (aI (cSqrt qSqrt))):=by
 refine ofI fun a b t n=> ?_;cases h0:(!(n==0))
 ·cases h1:rt ⟨a,b⟩
  ·exact calc_path goodG oracleISq (csqrt_p1 qSqrt t n a b) (obsB_yes h1 (obsB_yes h0 obsB_nil)) (by simp only[cSqrt,askI,I.zero,h0,h1,cT,cF]) rfl
  ·cases h3:(!((qSqrt false a).2==0))
   ·cases h4:(!((qSqrt true b).2==0))
    ·exact calc_path goodG oracleISq (csqrt_p4 qSqrt t n a b) (obsB_yes h4 (obsB_yes h3 (obsB_yes h1 (obsB_yes h0 obsB_nil)))) (by simp only[cSqrt,askI,endsI,I.zero,h0,h1,h3,h4,cT,cF]) rfl
    ·exact calc_path goodG oracleISq (csqrt_p3 qSqrt t n a b) (obsB_yes h4 (obsB_yes h3 (obsB_yes h1 (obsB_yes h0 obsB_nil)))) (by simp only[cSqrt,askI,endsI,I.zero,h0,h1,h3,h4,cT,cF]) rfl
   ·exact calc_path goodG oracleISq (csqrt_p2 qSqrt t n a b) (obsB_yes h3 (obsB_yes h3 (obsB_yes h1 (obsB_yes h0 obsB_nil)))) (by simp only[cSqrt,askI,endsI,I.zero,h0,h1,h3,cT,cF]) rfl
 ·exact calc_path goodG oracleISq (csqrt_p0 qSqrt t n a b) (obsB_yes h0 obsB_nil) (by simp only[cSqrt,askI,I.zero,h0,cT]) rfl
theorem unitG:PlainOk prog 70 (kOf unI fun n=>decide (0<=n/\n<=18446744073709551615)):=by
 intro args ds x ds' ob h ho;unfold kOf at h;split at h
 ·rename_i u;split at h
  ·rename_i n hk;simp only[sIz,pIz]at h;obtain⟨rfl,_,rfl⟩:=h;have hn:=oTz (ho _ (List.mem_cons_self ..));obtain⟨k,rfl⟩:=Int.eq_ofNat_of_zero_le hn.1;refine⟨[.int .u64 (k:Int)],_,plains_cons (intS_plain hk) plains_nil,rfl,fun w=>(unitOf_w k (by omega) w).mono ?_⟩;rintro e w' ⟨rfl,hb⟩;exact⟨by unfold unI;rw[tN];rfl,hb⟩
  ·cases h
 ·cases h
def OQ(N:Kq):OracleF:=lookO [(161,plainO (kSC N.ib N.si N.co)),(70,plainO (kOf N.uo N.u)),(28,kC (aII N.mul)),(39,kC (aII N.sub)),(38,kC (aII N.max)),(37,kC (aI N.sqrt)),(35,kC (aF N.num))]
theorem oracleQ:OracleOk prog (OQ (KqR atR)):= .cons scK.of (.cons unitG.of (.cons mulC (.cons subC (.cons cmax_I (.cons csqrt_I (.cons numC (.nil _)))))))
def drawS(v:I×I×I):SV:= .tup [.agg [.fl v.1.lo,.fl v.1.hi,.fl v.2.1.lo,.fl v.2.1.hi,.fl v.2.2.lo,.fl v.2.2.hi],.i .i64 0]
theorem drawRun(N:Kq)(a b:Int):valR ((run prog EG (OQ N) 60).1 181 [.si .u64 a,.si .u64 b] [] (some [true,false]))=some (drawS (dV N a b),some [],[(!((dZ N a b).2==0),false),(N.u a,true),(N.ib (N.uo b),true),(N.u b,true)]):=by kernel_rfl
def kDraw(v:Int->Int->I×I×I)(u:Int->Bool):List SV->Dec->Option (SV×Dec×Obs)
 | [x, y], ds => match intS x, intS y with
   |some (.u64,a),some (.u64,b)=>some (drawS (v a b),ds,[(u a,true),(u b,true)])
   |_,_=>none
 |_,_=>none
theorem drawG:PlainOk prog 181 (kDraw (dV (KqR atR)) fun n=>decide (0<=n/\n<=18446744073709551615)):=by
 intro args ds x ds' ob h ho;unfold kDraw at h;split at h
 ·rename_i y1 y2;split at h
  ·rename_i a b ha hb;simp only[sIz,pIz]at h;obtain⟨rfl,_,rfl⟩:=h;have h1:=ho _ (List.mem_cons_self ..);have h2:=ho (_,true) (List.mem_cons_of_mem _ (List.mem_cons_self ..));have g1:=oTz h1;have g2:=oTz h2;obtain⟨D,hD⟩:=draw_ok (a:=a) (b:=b) g1.1 g1.2;refine⟨[.int .u64 a,.int .u64 b],_,plains_cons (intS_plain ha) (plains_cons (intS_plain hb) plains_nil),rfl,fun w=> ?_⟩;refine calls_of_val goodG oracleQ 60 (drawRun (KqR atR) a b) (ObsOk.of_B (obsB_yes ?_ (obsB_yes h1 (obsB_yes (unI_in b g2.1 g2.2) (obsB_yes h2 obsB_nil))))) rfl rfl w;rw[hD.ez];rfl
  ·cases h
 ·cases h
end Go.Proofs.YtejcekikbnlllaaGreat
