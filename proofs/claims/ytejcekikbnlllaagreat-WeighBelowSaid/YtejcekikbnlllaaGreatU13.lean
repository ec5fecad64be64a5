/- burnishlow.Prog as a known function. burnishlow.Prog as a known function: the whole. The .. -/
import Derived.Test.YtejcekikbnlllaaGreatU12
set_option linter.all false
set_option maxRecDepth 100000
open Go.Proofs.Tryz(prog)
namespace Go.Proofs.YtejcekikbnlllaaGreat
open Go.RowKit Bu Rx
theorem LandsB.seq{P:Program}{E:ExtF}{O:OracleF}{B:Bs}(hP:Rx.Good P E)(hO:OracleOk P O){n:Nat}{c d:Code}{s:St}{ex:Ex}{Ψ:St->Prop}(h:Lands P E O n c s .normal)(ho:ObsOk (aft P E O n c s).ob)(k:RunsB P B d (aft P E O n c s) ex Ψ):RunsB P B (.seq c d) s ex Ψ:=
 RunsB.seq (RunsP.bs (h.runs hP hO ho)) fun _ ht=>ht▸k
def prU(cs:List SV)(len:Nat)(j:Nat):U8:=bif Nat.beq len 0 then u8Z else u8At cs (j*8)
def prK(len:Nat):Nat:=(mnI len 8).toNat-(mnI len 1).toNat
theorem prK_0:prK 0=0:=by decide
theorem prK_s{len:Nat}(h:0<len):prK len=min len 8-1/\(mnI (len:Int) 1).toNat=1:=by unfold prK mnI;split<;>split<;>constructor<;>omega
theorem u8_at{cells cs:List SV}{off o:Nat}(h:CellsAt cells off cs)(hk:ckAll cs o u8CK=true):u8At cells (off+o)=u8At cs o/\ckAll cells (off+o) u8CK=true:=by have h2:=(at_row h hk).2;refine⟨?_,h2⟩;unfold u8CK ckAll ckAll ckAll ckAll ckAll ckAll ckAll ckAll ckAll at hk;simp only[aTz]at hk;obtain⟨a0,a1,a2,a3,a4,a5,a6,a7,_⟩:=hk;unfold u8At;have e0:=(at_in h a0).1;have e1:=(at_in h a1).1;have e2:=(at_in h a2).1;have e3:=(at_in h a3).1;have e4:=(at_in h a4).1;have e5:=(at_in h a5).1;have e6:=(at_in h a6).1;have e7:=(at_in h a7).1;simp only[Nat.add_assoc,Nat.reduceAdd]at e0 e1 e2 e3 e4 e5 e6 e7 ⊢;rw[e0,e1,e2,e3,e4,e5,e6,e7]
structure PrIn (N:Npr) (cs:List SV) (len:Nat):Prop where
 row:∀j,j<len->j<8->ckAll cs (j*8) u8CK=true
 ok:∀j,j<len->j<8->prgB N (u8At cs (j*8))=true
section
variable {N:Npr} (hO:OracleOk prog (OPr N)) (hN:N.p minIor_ maxIor_=true) (hZ:N.o u8Z=true) {e:TypeId×(Nat×Nat)} {cells cs:List SV} {off len cap:Nat} {B:Bs} (hB:B.M.length=1) (hid:idsLts 0 cells=true) (hca:CellsAt cells off cs) (hcap:len<=cap) (K:PrIn N cs len)
include hO hN hB hca hcap K
set_option maxRecDepth 20000 in
theorem prog_tail{x:Nat->SV}:RunsB prog B (.seq (.seq pC3 (.block 0 (.loop pBd))) pTl) (qS e cells (prgC N (prU cs len) 0) off len cap x) .ret
  (fun t=>resultS prog Tryz.f15 t=some (.osl true 1 (prK len+1))/\t.M=[⟨e.1,cells,.ro e.2⟩,⟨50,prgC N (prU cs len) (prK len),.rown 19⟩]):=by
 refine RunsB.seq (Φ:=fun t=>∃o1 c1 y,t=pS e cells (prgC N (prU cs len) (prK len)) off len cap o1 (prK len) c1 (prK len+1) (.si .i64 (prK len:Nat)) y none) ?_ fun t ⟨o1,c1,y,ht⟩=> ?_
 ·have hsl:slC (mnI len 1) (mnI len 8) cap=true:=by unfold slC mnI;simp only[aTz,decide_eq_true_eq];split<;>split<;>refine⟨by omega,by omega,by omega⟩
  refine LandsB.seq goodG hO (pL3 N e cells _ off len cap x) (by rw[pO3];exact obs_cons hsl obs_nil) ?_;have hs:SameSt (pS e cells (prgC N (prU cs len) 0) off len cap (off+endC (mnI len 1) cap*8) (prK len) (cap-(mnI len 1).toNat) (0+1) (.si .i64 ((0:Nat):Int)) (pX3 N e cells (prgC N (prU cs len) 0) off len cap x) none) (aft prog EG (OPr N) 60 pC3 (qS e cells (prgC N (prU cs len) 0) off len cap x)):=by
   refine same_T (fun m=> ?_) ?_
   ·rw[pT3];simp only[pS,pT,prK,dens,den,Int.natCast_zero,Nat.zero_add]
   ·rw[pM3];rfl
  refine RunsB.retell hs ?_;refine loop_invB (fun(i:Nat)(y:Nat->SV)=>pS e cells (prgC N (prU cs len) i) off len cap (off+endC (mnI len 1) cap*8) (prK len) (cap-(mnI len 1).toNat) (i+1) (.si .i64 (i:Int)) y none) (fun _ _=>True) (prK len) ?_ ?_ _ trivial
  ·intro i y hi _;have hl:0<len:=by
    rcases Nat.eq_zero_or_pos len with h0|h0
    ·subst h0;rw[prK_0]at hi;omega
    ·exact h0
   obtain⟨k1,k2⟩:=prK_s hl;have hj:i+1<len/\i+1<8:=by omega
   have hrow:=K.row (i+1) hj.1 hj.2;have hU:prU cs len (i+1)=u8At cs ((i+1)*8):=by
    unfold prU;cases len with
    |zero=>omega
    |succ n=>rfl
   obtain⟨u1,u2⟩:=u8_at hca hrow;have ho:off+endC (mnI len 1) cap*8+i*8=off+(i+1)*8:=by
    have hne:(mnI (len:Int) 1)≠(cap:Int):=by unfold mnI;split<;>omega
    unfold endC;rw[dF hne,cF,k2];omega
   exact(pround hO hN hB hi (by omega) (by rw[ho,u1,hU]) (by rw[ho];exact u2) (by rw[hU];exact K.ok (i+1) hj.1 hj.2)).mono fun t ⟨x',h⟩=>⟨x',trivial,h⟩
  ·intro y _;have hob:ObsOk (aft prog EG (OPr N) 60 pBd (pS e cells (prgC N (prU cs len) (prK len)) off len cap (off+endC (mnI len 1) cap*8) (prK len) (cap-(mnI len 1).toNat) (prK len+1) (.si .i64 (prK len:Nat)) y (some [false]))).ob:=by rw[pXo];exact obs_cons (dF (by omega)) obs_nil
   refine RunsB.re (d:=some [false]) (o:=[]) (RunsP.bs (Lands.fin goodG hO (pLx N e cells _ off len cap _ _ _ _ _ y) hob ?_));exact⟨pS e cells (prgC N (prU cs len) (prK len)) off len cap (off+endC (mnI len 1) cap*8) (prK len) (cap-(mnI len 1).toNat) (prK len+1) (.si .i64 (prK len:Nat)) (fun j=>bif Nat.beq j 30 then .b false else y j) none,⟨_,_,_,rfl⟩,same_eq (congrArg St.T (pXo N e cells _ off len cap _ _ _ _ _ y)).symm (congrArg St.M (pXo N e cells _ off len cap _ _ _ _ _ y)).symm⟩
 ·subst ht;exact RunsP.bs (Lands.all goodG hO (pLt N e cells _ off len cap _ _ _ _ _ y) (by rw[pTo];exact obs_nil) ⟨pTr N e cells _ off len cap _ _ _ _ _ y,pTM N e cells _ off len cap _ _ _ _ _ y⟩)
end
section
variable (N:Npr) (e:TypeId×(Nat×Nat)) (cells:List SV) (off len cap:Nat)
theorem pMa2:selM ((pSa N e cells off len cap).M.set 2 ⟨50,nzC (N.k (u8At cells (off+0))) (N.f (u8At cells (off+0))),.rown 19⟩) [0,2]=some [⟨e.1,cells,.ro e.2⟩,⟨50,nzC (N.k (u8At cells (off+0))) (N.f (u8At cells (off+0))),.rown 19⟩]:=by kernel_rfl
theorem pMb2:(pSb N e cells off len cap).M.set 1 ⟨50,nzC (N.k u8Z) (N.f u8Z),.rown 19⟩=[⟨e.1,cells,.ro e.2⟩,⟨50,nzC (N.k u8Z) (N.f u8Z),.rown 19⟩]:=by kernel_rfl
end
theorem nzC_ids(k:Int)(f:Nat->F):idsLts 0 (nzC k f)=true:=rfl
theorem maxLen_1:1<=maxLen:=by decide
theorem own_fin{P:Program}{B:Bs}{c:Code}{s:St}{ex:Ex}{T T':List SV}{M M':List Blk}{d:Dec}{o:Obs}(h:RunsB P B c s ex (fun u=>u=⟨T,M,d,o⟩))(hT:T=T')(hM:M=M'):RunsB P B c s ex (fun u=>u=⟨T',M',none,[]⟩):=by subst hT;subst hM;exact RunsB.fin h fun t ht=>⟨_,rfl,ht▸SameSt.same _ _ _ _ _ _⟩
theorem sel_fin{P:Program}{B:Bs}{c:Code}{s:St}{T0:List SV}{M0:List Blk}{d:Dec}{o:Obs}{ex:Ex}{ids:List Nat}{M':List Blk}{T:(Nat->Value)->List SV}(h:RunsB P B c s ex (fun u=>u=⟨T0,M0,d,o⟩))(hn:nodupB ids=true)(hM:selM M0 ids=some M')(hk:∀n,n<B.M.length->ids[n]? =some n)
  (hT:∀v,((⟨T0,M0,d,o⟩:St).sel ids M' v).T=T v):RunsB P B c s ex (fun u=>∃v,u=⟨T v,M',none,[]⟩):=
 RunsB.sel h hn hM hk fun v=>⟨⟨T v,M',none,[]⟩,⟨v,rfl⟩,same_eq (hT v).symm rfl⟩
theorem prog_in{N:Npr}(hO:OracleOk prog (OPr N))(hN:N.p minIor_ maxIor_=true)(hZ:N.o u8Z=true){e:TypeId×(Nat×Nat)}{cells cs:List SV}{off len cap:Nat}{B:Bs}(hB:B.M.length=1)(hid:idsLts 0 cells=true)(hca:CellsAt cells off cs)
  (hcap:len<=cap) (K:PrIn N cs len):RunsB prog B pC (pE e cells off len cap none) .ret
  (fun t=>resultS prog Tryz.f15 t=some (.osl true 1 (prK len+1))/\t.M=[⟨e.1,cells,.ro e.2⟩,⟨50,prgC N (prU cs len) (prK len),.rown 19⟩]):=by
 have hk:∀n,n<B.M.length->([0,2]:List Nat)[n]? =some n:=fun n hn=>by
  rw[hB]at hn;have:n=0:=by omega
  subst this;rfl
 rw[pC_cut];rcases Nat.eq_zero_or_pos len with h0|h0
 ·refine RunsB.re (d:=some [false]) (o:=[]) ?_;have q0:ObsOk (pS0 N e cells off len cap false).ob:=by rw[pO0];exact obs_nil
  have q1:ObsOk (pS1 N e cells off len cap false).ob:=by rw[pO1];exact obs_cons hZ obs_nil
  refine LandsB.seq goodG hO (pL0 N e cells off len cap false) q0 ?_;refine LandsB.seq goodG hO (pL1 N e cells off len cap false) q1 ?_;refine RunsB.seq (Φ:=fun t=>∃x,t=qS e cells (prgC N (prU cs len) 0) off len cap x) ?_ fun t ⟨x,ht⟩=> ?_
  ·have hob:ObsOk (pSb N e cells off len cap).ob:=by rw[pOb];exact obs_cons (dF (by omega)) (obs_cons hZ obs_nil)
   have h1:=RunsB.own (B:=B) (n:=1) (L:=1) (size:=19) (i:=3) (e:=50) (cells:=nzC (N.k u8Z) (N.f u8Z)) (RunsP.bs (Lands.runs goodG hO (pLb N e cells off len cap) hob)) (by omega) (by rw[pMb];rfl) rfl maxLen_1 (fun b hb=>by
    rw[pMb]at hb;simp only[List.mem_cons,List.not_mem_nil,or_false]at hb;rcases hb with rfl|rfl
    ·exact⟨rfl,hid⟩
    ·exact⟨rfl,nzC_ids _ _⟩) (p3b N e cells off len cap) (pNb N e cells off len cap)
   have hU:prgC N (prU cs len) 0=nzC (N.k u8Z) (N.f u8Z):=by subst h0;rfl
   have h2:=own_fin h1 (pTb N e cells off len cap) (pMb2 N e cells off len cap);rw[hU];exact h2.mono fun t ht=>⟨pXb N e cells off len cap,ht⟩
  ·subst ht;exact prog_tail hO hN hB hca hcap K
 ·refine RunsB.re (d:=some [true]) (o:=[]) ?_;have q0:ObsOk (pS0 N e cells off len cap true).ob:=by rw[pO0];exact obs_nil
  have q1:ObsOk (pS1 N e cells off len cap true).ob:=by rw[pO1];exact obs_cons hZ obs_nil
  refine LandsB.seq goodG hO (pL0 N e cells off len cap true) q0 ?_;refine LandsB.seq goodG hO (pL1 N e cells off len cap true) q1 ?_;refine RunsB.seq (Φ:=fun t=>∃x,t=qS e cells (prgC N (prU cs len) 0) off len cap x) ?_ fun t ⟨x,ht⟩=> ?_
  ·have hr0:=K.row 0 h0 (by omega);have ho0:=K.ok 0 h0 (by omega);rw[Nat.zero_mul]at hr0 ho0;obtain⟨u1,u2⟩:=u8_at hca hr0;have hU:prgC N (prU cs len) 0=nzC (N.k (u8At cells (off+0))) (N.f (u8At cells (off+0))):=by
    rw[u1];cases len with
    |zero=>omega
    |succ n=>unfold prgC prU;rw[Nat.zero_mul];rfl
   have hoo:N.o (u8At cells (off+0))=true:=by rw[u1];unfold prgB at ho0;rw[aTz]at ho0;exact ho0.1
   have hob:ObsOk (pSa N e cells off len cap).ob:=by rw[pOa];exact obs_cons hoo (obs_cons u2 (obs_cons (ix_of (by omega) (by omega)) (obs_cons (dT (by omega)) (obs_cons hZ obs_nil))))
   have h1:=RunsB.own (B:=B) (n:=2) (L:=1) (size:=19) (i:=3) (e:=50) (cells:=nzC (N.k (u8At cells (off+0))) (N.f (u8At cells (off+0)))) (RunsP.bs (Lands.runs goodG hO (pLa N e cells off len cap) hob)) (by omega) (by rw[pMa];rfl) rfl maxLen_1 (fun b hb=>by
    rw[pMa]at hb;simp only[List.mem_cons,List.not_mem_nil,or_false]at hb;rcases hb with rfl|rfl|rfl
    ·exact⟨rfl,hid⟩
    ·exact⟨rfl,nzC_ids _ _⟩
    ·exact⟨rfl,nzC_ids _ _⟩) (p3a N e cells off len cap) (pNa N e cells off len cap)
   have h2:=sel_fin (ids:=[0,2]) h1 rfl (pMa2 N e cells off len cap) hk (fun v=>pTa N e cells off len cap v _ _ _ _);rw[hU];exact h2.mono fun t ⟨v,ht⟩=>⟨pXa N e cells off len cap v,ht⟩
  ·subst ht;exact prog_tail hO hN hB hca hcap K
end Go.Proofs.YtejcekikbnlllaaGreat
namespace Rx
open Go Go.RowKit
def post:Nat->Code->Code
 |0,c=>c
 |k+1,.seq _ b=>post k b
 |_+1,c=>c
def runN(P:Program)(E:ExtF)(O:OracleF)(n:Nat):Nat->Code->St->Option St
 |0,_,s=>some s
 | k + 1, .seq a b, s => match (run P E O n).2 a s with
   |some (.normal,s')=>runN P E O n k b s'
   |_=>none
 |_+1,_,_=>none
def aftN(P:Program)(E:ExtF)(O:OracleF)(n k:Nat)(c:Code)(s:St):St:=match runN P E O n k c s with
 |some s'=>s'
 |none=>s
def LandsN(P:Program)(E:ExtF)(O:OracleF)(n k:Nat)(c:Code)(s:St):Prop:=runN P E O n k c s=some (aftN P E O n k c s)
section
variable {P:Program} {E:ExtF} {O:OracleF} {B:Bs}
theorem runN_suf(hP:Good P E)(hO:OracleOk P O){n:Nat}:∀{k:Nat}{c:Code}{s t:St},runN P E O n k c s=some t->Suf s.ob t.ob
 | 0, c, s, t, h => by simp only[runN,sIz]at h;subst h;exact Suf.refl _
 | k + 1, c, s, t, h => by
   cases c with
   | seq a b =>
     unfold runN at h;split at h
     ·rename_i s' h1;exact((run_ok hP hO n).2.1 _ _ _ _ h1).1.trans (runN_suf hP hO h)
     ·cases h
   |_=>cases h
theorem runN_ok(hP:Good P E)(hO:OracleOk P O){n:Nat}{ex:Ex}{Φ:St->Prop}:∀{k:Nat}{c:Code}{s t:St},runN P E O n k c s=some t->ObsOk t.ob->RunsB P B (post k c) t ex Φ->RunsB P B c s ex Φ
 | 0, c, s, t, h, _, g => by simp only[runN,sIz]at h;subst h;exact g
 | k + 1, c, s, t, h, ho, g => by
   cases c with
   | seq a b =>
     unfold runN at h;split at h
     ·rename_i s' h1;have h2:ObsOk s'.ob:=(runN_suf hP hO h).ok ho;exact RunsB.seq (RunsP.bs (RunsP.of (RunsTo.of hP hO h1 h2))) fun u hu=>by subst hu;exact runN_ok hP hO h ho g
     ·cases h
   |_=>cases h
theorem LandsN.ok(hP:Good P E)(hO:OracleOk P O){n k:Nat}{c:Code}{s:St}{ex:Ex}{Φ:St->Prop}(h:LandsN P E O n k c s)(ho:ObsOk (aftN P E O n k c s).ob)(g:RunsB P B (post k c) (aftN P E O n k c s) ex Φ):RunsB P B c s ex Φ:=runN_ok hP hO h ho g
def RunsW(P:Program)(B:Bs)(c:Code)(s:St)(ex:Ex)(Φ:St->Prop):Prop:=
 ∀m a w(Q:Exit->Act->World->Prop),StAt m s a w->Goes B.m B.M B.w m s.M w->(∀s' m' a' w',Φ s'->StAt m' s' a' w'->Below B.w.heap.size B.w w'->Q (exOf ex) a' w')->c.wp P Q a w
theorem RunsW.seq{c d:Code}{s:St}{ex:Ex}{Φ Ψ:St->Prop}(h:RunsB P B c s .normal Φ)(k:∀t,Φ t->RunsW P B d t ex Ψ):RunsW P B (.seq c d) s ex Ψ:=by intro m a w Q hs hg hq;refine wp_seq (h m a w _ hs hg fun s1 m' a' w' h1 hs' hg'=> ?_);exact k s1 h1 m' a' w' Q hs' hg' hq
theorem runW_ok(hP:Good P E)(hO:OracleOk P O){n:Nat}{ex:Ex}{Φ:St->Prop}:∀{k:Nat}{c:Code}{s t:St},runN P E O n k c s=some t->ObsOk t.ob->RunsW P B (post k c) t ex Φ->RunsW P B c s ex Φ
 | 0, c, s, t, h, _, g => by simp only[runN,sIz]at h;subst h;exact g
 | k + 1, c, s, t, h, ho, g => by
   cases c with
   | seq a b =>
     unfold runN at h;split at h
     ·rename_i s' h1;have h2:ObsOk s'.ob:=(runN_suf hP hO h).ok ho;exact RunsW.seq (RunsP.bs (RunsP.of (RunsTo.of hP hO h1 h2))) fun u hu=>by subst hu;exact runW_ok hP hO h ho g
     ·cases h
   |_=>cases h
theorem RunsW.fresh{c:Code}{s:St}{ex:Ex}{Φ:St->Prop}{rest M':List Blk}{ids:List Nat}(hx:∀b∈B.M,b.exact=true)(hs:s.M=B.M++rest)(hn:nodupB ids=true)(hM:selM s.M ids=some M')(hk:∀(j n:Nat),ids[j]? =some n->B.M.length<=n)(hlv:∀b∈M',b.live=true)
  (h:∀(B':Bs)v,B'.M=M'->RunsB P B' c (s.sel ids M' v) ex Φ):RunsW P B c s ex Φ:=by
 intro m a w Q hst hg hq;have hst':=hst.sel hn hM;have hb1:Below B.w.heap.size B.w w:=Goes.reads hx B.mem (by rw[<-hs];exact hg) (by rw[<-hs];exact hst.mem);refine h ⟨m.sel ids,M',w,hst'.mem⟩ _ rfl (m.sel ids) a w Q hst' (Goes.refl _ _ _) fun s' m' a' w' h1 h2 hg'=> ?_;refine hq s' m' a' w' h1 h2 (hb1.trans ⟨hg'.fr.os,hg'.fr.tape,hg'.fr.output,hg'.fr.size,fun r hr=> ?_⟩);refine hg'.fr.block r (Nat.lt_of_lt_of_le hr hb1.size) fun⟨j,hj,_⟩=> ?_;obtain⟨n,h3,h4⟩:=sel_inv hj;have hkj:=hk j n h3;rcases hg.new n r h4 with h5|h5|⟨q,h5,b,h6,h7⟩
 ·have:=B.mem.dom n r h5;omega
 ·omega
 ·have h8:=B.mem.dom q r h5;have hj':j<M'.length:=by rw[(selM_get hM).1];exact(List.getElem?_eq_some_iff.1 h3).1
  obtain⟨n2,b2,cs,g1,g2,_,g4⟩:=(selM_get hM).2 j M'[j] (List.getElem?_eq_getElem hj');rw[h3]at g1;cases g1;have g5:=hlv _ (List.getElem_mem hj');rw[g4]at g5;have e:=hst.mem.inj n q r ⟨b2,g2,g5⟩ ⟨b,by rw[hs,List.getElem?_append_left h8];exact h6,h7⟩ h4 (hg.ext.n q r h5);omega
theorem RunsW.call{g:FuncId}{fn:Func}{c:Code}{args:List SV}{M:List Blk}{d:Dec}{x:SV}{v:Value}(hg:P.funcs[g]? =some fn)(hb:fn.body=some c)(hx:plain x=some v){m:Nms}{w:World}{vs:List Value}(hvs:dens m args=some vs)(hM:MemAt m w M)
  (h:RunsW P ⟨m,M,w,hM⟩ c ⟨args++List.replicate (fn.ntmps-args.length) (.tup []),M,d,[]⟩ .ret (fun t=>resultS P fn t=some x)) :
  Calls P g vs.toArray w fun e w'=>e= .returned v/\Below w.heap.size w w':=by
 have hl:=dens_length hvs;refine calls_of_wp hg hb ?_;have htm:dens m (args++List.replicate (fn.ntmps-args.length) (.tup []))=some (vs.toArray++Array.replicate (fn.ntmps-vs.toArray.size) undef).toList:=by have:=dens_append hvs (dens_replicate (undef_den m) (fn.ntmps-args.length));rw[this];simp[hl]
 refine h _ _ w _ ⟨htm,rfl,hM⟩ (Goes.refl m M w) fun t m' a' w' h1 hst hbl=> ?_;obtain⟨u,hu,hr⟩:=resultS_ok hst h1;rw[den_plain hx]at hu;have:=Option.some.inj hu;subst this;exact⟨hst.df,v,hr,rfl,hbl⟩
end
end Rx
namespace Go.Proofs.YtejcekikbnlllaaGreat
open Go.RowKit Bu Rx
def kPr(g:List SV->Nat->List SV)(b:List SV->Nat->Bool):OF:=fun args M ds=>match args,M with
 | [.ssl 0 off len cap],[⟨e,cells,.ro z⟩]=>some (.osl true 1 (prK len+1),[⟨e,cells,.ro z⟩,⟨50,g ((cells.drop off).take (len*8)) len,.rown 19⟩],ds,[(decide (len<=cap),true),(b ((cells.drop off).take (len*8)) len,true)])
 |_,_=>none
def prInB(N:Npr)(cs:List SV)(len:Nat):Bool:=(List.range (min len 8)).all fun j=>ckAll cs (j*8) u8CK&&prgB N (u8At cs (j*8))
theorem prInB_ok{N:Npr}{cs:List SV}{len:Nat}(h:prInB N cs len=true):PrIn N cs len:=by have k:∀j,j<len->j<8->(ckAll cs (j*8) u8CK&&prgB N (u8At cs (j*8)))=true:=fun j h1 h2=>List.all_eq_true.1 h j (List.mem_range.2 (by omega));exact⟨fun j h1 h2=>(aTz _ _▸k j h1 h2).1,fun j h1 h2=>(aTz _ _▸k j h1 h2).2⟩
theorem cells_cut(cells:List SV)(off n:Nat):CellsAt cells off ((cells.drop off).take n):=fun j x hx=>by
 rw[List.getElem?_take]at hx;split at hx
 ·rw[List.getElem?_drop]at hx;exact hx
 ·cases hx
theorem prG{N:Npr}(hO:OracleOk prog (OPr N))(hN:N.p minIor_ maxIor_=true)(hZ:N.o u8Z=true):OfOk prog 15 (kPr (fun cs len=>prgC N (prU cs len) (prK len)) (prInB N)):=by
 intro args M ds x M' ds' ob hk ho m w vs hvs hM;unfold kPr at hk;split at hk
 ·rename_i off len cap e cells z;simp only[sIz,pIz]at hk;obtain⟨rfl,rfl,_,rfl⟩:=hk;have h1:=ho _ (List.mem_cons_self ..);have h2:=ho _ (List.mem_cons_of_mem _ (List.mem_cons_self ..));obtain⟨r,hr,hat⟩:=hM.blk 0 _ rfl;obtain⟨cv,sp,_,_,hk2⟩:=hat rfl;have hid:idsLts 0 cells=true:=hk2.2;have hrun:=prog_in (e:=(e,z)) (B:=⟨m,[⟨e,cells,.ro z⟩],w,hM⟩) hO hN hZ rfl hid (cells_cut cells off (len*8)) (oTz h1) (prInB_ok h2);have hcall:=RunsB.call (d:=none) (Φ:=fun t=>resultS prog Tryz.f15 t=some (.osl true 1 (prK len+1))/\t.M=[⟨e,cells,.ro z⟩,⟨50,prgC N (prU ((cells.drop off).take (len*8)) len) (prK len),.rown 19⟩]) (x:=fun _=> .osl true 1 (prK len+1)) Tryz.func15 pBody hvs hM (by rw[pNt];exact hrun) (fun t ht=>ht.1);refine Calls.mono hcall fun ex w' ⟨t,m',v,ht,he,hv,hM',hgo⟩=> ?_;have htM:=ht.2;rw[htM]at hM' hgo;exact⟨m',v,he,hgo,hv,hM',by simp⟩
 ·cases hk
noncomputable def pZ:St:=⟨([.o (.slice none 0 0)]:List SV)++List.replicate 90 (.tup []),[],none,[]⟩
noncomputable def pC4:Code:=seqL (post 3 pC)
theorem pC4_cut:post 3 pC= .seq pC4 pTl:=by kernel_rfl
section
variable (N:Npr)
noncomputable abbrev pSz3:St:=aftN prog EG (OPr N) 60 3 pC pZ
noncomputable abbrev pSz:St:=aft prog EG (OPr N) 60 pC4 (pSz3 N)
theorem pLz3:LandsN prog EG (OPr N) 60 3 pC pZ:=by unfold LandsN;kernel_rfl
theorem pLz:Lands prog EG (OPr N) 60 pC4 (pSz3 N) .normal:=by unfold Lands;kernel_rfl
theorem pOz3:(pSz3 N).ob=[(N.o u8Z,true)]:=by kernel_rfl
theorem pOz:(pSz N).ob=[(N.o u8Z,true)]:=by kernel_rfl
theorem pMz:(pSz N).M=[⟨50,nzC (N.k u8Z) (N.f u8Z),.ex⟩]:=by kernel_rfl
theorem p3z:(pSz N).T[3]? =some (.sl 0 0 1 1):=by kernel_rfl
theorem pNz:noOsls (pSz N).T=true:=by kernel_rfl
noncomputable def pYz:St:=⟨(pSz N).T.set 3 (.osl true 0 1),[⟨50,nzC (N.k u8Z) (N.f u8Z),.rown 19⟩],none,[]⟩
theorem pLy:Lands prog EG (OPr N) 60 pTl (pYz N) .ret:=by unfold Lands;kernel_rfl
theorem pOy:(aft prog EG (OPr N) 60 pTl (pYz N)).ob=[]:=by kernel_rfl
theorem pMy:(aft prog EG (OPr N) 60 pTl (pYz N)).M=[⟨50,nzC (N.k u8Z) (N.f u8Z),.rown 19⟩]:=by kernel_rfl
theorem pRy:resultS prog Tryz.f15 (aft prog EG (OPr N) 60 pTl (pYz N))=some (.osl true 0 1):=by kernel_rfl
end
theorem pz_run{N:Npr}(hO:OracleOk prog (OPr N))(hZ:N.o u8Z=true){B:Bs}(hB:B.M.length=0):RunsB prog B pC pZ .ret (fun t=>resultS prog Tryz.f15 t=some (.osl true 0 1)/\t.M=[⟨50,nzC (N.k u8Z) (N.f u8Z),.rown 19⟩]):=by
 have o3:ObsOk (pSz3 N).ob:=by rw[pOz3];exact obs_cons hZ obs_nil
 have o4:ObsOk (pSz N).ob:=by rw[pOz];exact obs_cons hZ obs_nil
 refine(pLz3 N).ok goodG hO o3 ?_;rw[pC4_cut];have h1:=RunsB.own (B:=B) (n:=0) (L:=1) (size:=19) (i:=3) (e:=50) (cells:=nzC (N.k u8Z) (N.f u8Z)) (RunsP.bs (Lands.runs goodG hO (pLz N) o4)) (by omega) (by rw[pMz];rfl) rfl maxLen_1 (fun b hb=>by rw[pMz,List.mem_singleton]at hb;subst hb;exact⟨rfl,nzC_ids _ _⟩) (p3z N) (pNz N);refine RunsB.seq (own_fin h1 rfl (show _=[⟨50,nzC (N.k u8Z) (N.f u8Z),.rown 19⟩] by rw[pMz];rfl)) fun t ht=> ?_;subst ht;show RunsB prog B pTl (pYz N) .ret _;exact RunsP.bs (Lands.all goodG hO (pLy N) (by rw[pOy];exact obs_nil) ⟨pRy N,pMy N⟩)
def kPz(g:List SV->Nat->List SV):OF:=fun args M ds=>match args,M with
 | [.o (.slice none 0 0)],[]=>some (.osl true 0 1,[⟨50,g [] 0,.rown 19⟩],ds,[])
 |_,_=>none
theorem pzG{N:Npr}(hO:OracleOk prog (OPr N))(hZ:N.o u8Z=true):OfOk prog 15 (kPz (fun cs len=>prgC N (prU cs len) (prK len))):=by
 intro args M ds x M' ds' ob hk ho m w vs hvs hM;unfold kPz at hk;split at hk
 ·simp only[sIz,pIz]at hk;obtain⟨rfl,rfl,_,rfl⟩:=hk;have hcall:=RunsB.call (d:=none) (Φ:=fun t=>resultS prog Tryz.f15 t=some (.osl true 0 1)/\t.M=[⟨50,nzC (N.k u8Z) (N.f u8Z),.rown 19⟩]) (x:=fun _=> .osl true 0 1) Tryz.func15 pBody hvs hM (by rw[pNt];exact pz_run hO hZ rfl) (fun t ht=>ht.1);refine Calls.mono hcall fun ex w' ⟨t,m',v,ht,he,hv,hM',hgo⟩=> ?_;have htM:=ht.2;rw[htM]at hM' hgo;exact⟨m',v,he,hgo,hv,hM',by simp⟩
 ·cases hk
def NprR:Npr:=⟨leK,leF bwF,U8.ok,frT,wN32,bwF,pairB⟩
theorem lnR_0{E:List I×Int}{i:Nat}(h:E.2=0):lnR E i=(gt E.1 i,0):=by unfold lnR;rw[show neB E.2=false by rw[h];rfl];rfl
theorem ggR_0{p:List Bu.Op}{c al:I}(h:(evalK KkR p [c,al] 0).2=0):ggR KkR p c al=(gt (evalK KkR p [c,al] 0).1 0,0):=by unfold ggR ggE;rw[show neB (evalK KkR p [c,al] 0).2=false by rw[h];rfl];rfl
theorem z64_0:z64.k=0:=by decide+kernel
structure Uz1 (a:I):Prop where
 rt:rt a=true
 lo:z64.k<=a.lo.k
 hi:a.hi.k<=one64.k
theorem Uz1.box{a:I}(h:Uz1 a):InB a bz1:=⟨h.lo,h.hi,oTz h.rt⟩
end Go.Proofs.YtejcekikbnlllaaGreat
namespace Bu
open Rx Go
def idxB(m:List Nat)(a i:Nat):Bool:=decide (a<m.length)&&Nat.beq (m.getD a 0) i
def okR(m:List Nat):Bu.Op->Bu.Op->Bool
 | .add i j,.add a b=>idxB m a i&&idxB m b j
 | .sub i j,.sub a b=>idxB m a i&&idxB m b j
 | .mul i j,.mul a b=>idxB m a i&&idxB m b j
 | .div i j,.div a b=>idxB m a i&&idxB m b j
 | .max i j,.max a b=>idxB m a i&&idxB m b j
 | .sqr i,.sqr a=>idxB m a i
 | .sqrt i,.sqrt a=>idxB m a i
 | .num x,.num y=>eqF x y
 | .lit x,.lit y=>eqI x y
 | .kept l h i,.kept l' h' a=>eqF l l'&&eqF h h'&&idxB m a i
 |_,_=>false
def agR:List Bu.Op->List Bu.Op->List Nat->Bool
 | [],[],_=>true
 |o::l,o'::l',m=>okR m o o'&&agR l l' (0::m.map (· +1))
 |_,_,_=>false
def AgV(m:List Nat)(v w:List I):Prop:=∀a,a<m.length->gt w a=gt v (m.getD a 0)
theorem idx_ok{m:List Nat}{v w:List I}{a i:Nat}(h:AgV m v w)(k:idxB m a i=true):gt v i=gt w a:=by unfold idxB at k;rw[aTz]at k;rw[h a (oTz k.1),Nat.eq_of_beq_eq_true k.2]
theorem okR_step{K:Kk}{m:List Nat}{v w:List I}{o o':Bu.Op}{e:Int}(h:AgV m v w)(k:okR m o o'=true):stepK K o v e=stepK K o' w e:=by
 unfold okR at k;split at k<;>(try simp only[aTz]at k)
 all_goals first
  |(simp only[stepK,idx_ok h k.1,idx_ok h k.2];done)
  |(simp only[stepK,idx_ok h k];done)
  |(simp only[stepK,eqF_ok k];done)
  |(simp only[stepK,eqI_ok k];done)
  |(simp only[stepK,eqF_ok k.1.1,eqF_ok k.1.2,idx_ok h k.2];done)
  |exact absurd k (by decide)
theorem agV_push{m:List Nat}{v w:List I}{r:I}(h:AgV m v w):AgV (0::m.map (· +1)) (r::v) (r::w):=by
 intro a ha;cases a with
 |zero=>rfl
 | succ a =>
   have ha':a<m.length:=by simpa using ha
   have e:(0::m.map (· +1)).getD (a+1) 0=m.getD a 0+1:=by simp only[List.getD_eq_getElem?_getD,List.getElem?_cons_succ,List.getElem?_map,List.getElem?_eq_getElem ha',Option.map_some,Option.getD_some]
   rw[e];exact h a ha'
theorem eval_agR{K:Kk}:∀{l l':List Bu.Op}{m:List Nat}{v w:List I}{e:Int},agR l l' m=true->AgV m v w->(evalK K l v e).2=(evalK K l' w e).2/\((l=[]->gt v 0=gt w 0)->gt (evalK K l v e).1 0=gt (evalK K l' w e).1 0)
 | [],[],m,v,w,e,_,_=>⟨rfl,fun h=>h rfl⟩
 | o :: l, o' :: l', m, v, w, e, h, k => by unfold agR at h;rw[aTz]at h;have s:=okR_step (K:=K) (e:=e) k h.1;have t:=eval_agR (K:=K) (e:=(stepK K o v e).2) h.2 (agV_push (r:=(stepK K o v e).1) k);unfold evalK;rw[<-s];exact⟨t.1,fun _=>t.2 fun _=>rfl⟩
 | [],_::_,_,_,_,_,h,_=>by cases h
 |_::_,[],_,_,_,_,h,_=>by cases h
theorem eval_app{K:Kk}:∀{a b:List Bu.Op}{v:List I}{e:Int},evalK K (a++b) v e=evalK K b (evalK K a v e).1 (evalK K a v e).2
 | [],_,_,_=>rfl
 | o :: a, b, v, e => by show evalK K (a++b) ((stepK K o v e).1::v) (stepK K o v e).2=_;rw[eval_app];rfl
theorem eval_regs{K:Kk}:∀{l:List Bu.Op}{v:List I}{e:Int}(k:Nat),gt (evalK K l v e).1 (l.length+k)=gt v k
 | [],v,e,k=>by rw[List.length_nil,Nat.zero_add];rfl
 | o :: l, v, e, k => by have h:=eval_regs (K:=K) (l:=l) (v:=(stepK K o v e).1::v) (e:=(stepK K o v e).2) (k+1);show gt (evalK K l ((stepK K o v e).1::v) (stepK K o v e).2).1 (l.length+1+k)=_;rw[show l.length+1+k=l.length+(k+1) by omega,h];rfl
theorem ev0{o:Bu.Op}{l:List Bu.Op}{v:List I}(h:(evalK KkR (o::l) v 0).2=0):(stepK KkR o v 0).2=0/\evalK KkR (o::l) v 0=evalK KkR l ((stepK KkR o v 0).1::v) 0:=by
 have e:evalK KkR (o::l) v 0=evalK KkR l ((stepK KkR o v 0).1::v) (stepK KkR o v 0).2:=rfl;by_cases k:(stepK KkR o v 0).2=0
 ·exact⟨k,by rw[e,k]⟩
 ·rw[e,eval_kept k]at h;exact absurd h k
def orT:List Op:=[.lit (PIc),.num (two64),.num (one64),.div 2 1,.num (three64),.div 3 0,.sub 2 0,.mul 0 8,.add 7 0,.div 6 0,.mul 11 0,.mul 0 11,.add 2 0,.mul 15 0,.kept z64 one64 0]
end Bu
namespace Go.Proofs.YtejcekikbnlllaaGreat
open Go.RowKit Bu Rx
theorem or_same:agR (orA.drop 3) orT [0,6,7]=true/\agR (orB.drop 5) orT [0,8,9]=true/\agR (orC.drop 8) orT [0,11,12]=true:=by decide+kernel
theorem or_box:(evalK KkR orT [b11,bz1,bz1] 0).2=0/\orT.all monoB=true/\(evalK KkR (orA.take 3) [b11,bzz,bzz,bz1,bz1] 0).2=0/\(evalK KkR (orB.take 5) [b11,bzz,bzz,bz1,bz1] 0).2=0/\(orA.take 3).all monoB=true/\(orB.take 5).all monoB=true:=by decide+kernel
def orV(r s sl:I):I:=gt (evalK KkR orT [sl,s,r] 0).1 0
def hdA(r s i o d:I):List I×Int:=evalK KkR (orA.take 3) [d,o,i,s,r] 0
def hdB(r s i o d:I):List I×Int:=evalK KkR (orB.take 5) [d,o,i,s,r] 0
def hdC(r s i o d:I):List I×Int:=evalK KkR (orC.take 8) [d,o,i,s,r] 0
def hdS(r s i o d:I):List I×Int:=bif decide ((orQ KkR i o d).hi.k<=z64.k)then hdA r s i o d else bif decide (z64.k<=(orQ KkR i o d).lo.k)then hdB r s i o d else hdC r s i o d
structure B11 (a:I):Prop where
 rt:rt a=true
 lo:mone64.k<=a.lo.k
 hi:a.hi.k<=one64.k
theorem B11.box{a:I}(h:B11 a):InB a b11:=⟨h.lo,h.hi,oTz h.rt⟩
theorem kept_b11{a:I}(h:rt a=true):B11 (keptI a mone64 one64):=by
 obtain⟨e1,e2⟩:=keptI_k a mone64 one64;have zk:mone64.k<=one64.k:=by decide+kernel
 exact⟨keptI_rt h,by rw[e1];omega,by rw[e2];omega⟩
theorem orV_box{r s sl:I}(hr:Uz1 r)(hs:Uz1 s)(hl:B11 sl):(evalK KkR orT [sl,s,r] 0).2=0:=(box (v:=[sl,s,r]) (w:=[b11,bz1,bz1]) or_box.2.1 ⟨hl.box,hs.box,hr.box,trivial⟩ or_box.1).1
theorem orV_in{r s sl:I}(hr:Uz1 r)(hs:Uz1 s)(hl:B11 sl):Uz1 (orV r s sl):=by
 obtain⟨_,k⟩:=eval_chain (orV_box hr hs hl);unfold orV;generalize (evalK KkR orT [sl,s,r] 0).1=w at*;obtain⟨pi,hpi,two,htwo,n1,hn1,d1,hd1,n3,hn3,d2,hd2,ss,hss,m,hm,ad,had,a,ha,b,hb,bs,hbs,abs,habs,rv,hrv,v,hv,hend⟩:=k;subst hend;have h:=hv;have e:v=keptI rv z64 one64:=h;obtain⟨e1,e2⟩:=keptI_k rv z64 one64;have zk:z64.k<=one64.k:=by decide+kernel
 have r0:rt rv=true:=AllR.rt hrv;refine⟨?_,?_,?_⟩
 ·show rt v=true;rw[e];exact keptI_rt r0
 ·show z64.k<=v.lo.k;rw[e,e1];omega
 ·show v.hi.k<=one64.k;rw[e,e2];omega
theorem tail_of{n:Nat}{p:List Nat}{l:List Bu.Op}{r s i o d:I}(hl:l.length=n+(l.drop n).length)(ha:agR (l.drop n) orT [0,n+3,n+4]=true)(hr:Uz1 r)(hs:Uz1 s)(hh:(evalK KkR (l.take n) [d,o,i,s,r] 0).2=0->B11 (gt (evalK KkR (l.take n) [d,o,i,s,r] 0).1 0)) :
  lnR (orE KkR l r s i o d) 0=bif neB (evalK KkR (l.take n) [d,o,i,s,r] 0).2 then(I.zero,(evalK KkR (l.take n) [d,o,i,s,r] 0).2)else(orV r s (gt (evalK KkR (l.take n) [d,o,i,s,r] 0).1 0),0):=by
 have e:orE KkR l r s i o d=evalK KkR (l.drop n) (evalK KkR (l.take n) [d,o,i,s,r] 0).1 (evalK KkR (l.take n) [d,o,i,s,r] 0).2:=by unfold orE;rw[<-eval_app,List.take_append_drop]
 have g:=fun k=>eval_regs (K:=KkR) (l:=l.take n) (v:=[d,o,i,s,r]) (e:=0) k;rw[List.length_take,Nat.min_eq_left (by omega)]at g;rw[e];generalize hH:evalK KkR (l.take n) [d,o,i,s,r] 0=H at*;by_cases k:H.2=0
 ·have av:AgV [0,n+3,n+4] H.1 [gt H.1 0,s,r]:=by
   intro a ha
   match a,ha with
   |0,_=>rfl
   |1,_=>exact(g 3).symm
   |2,_=>exact(g 4).symm
  obtain⟨t1,t2⟩:=eval_agR (K:=KkR) (e:=0) ha av;have b:=orV_box hr hs (hh k);rw[k];rw[lnR_0 (t1.trans b)];show _=(orV r s (gt H.1 0),0);unfold orV;rw[t2 fun _=>rfl]
 ·have q:neB H.2=true:=by unfold neB;simpa using k
  unfold lnR;rw[eval_kept k,q];rfl
theorem hdA_b{r s i o d:I}(h:(hdA r s i o d).2=0):B11 (gt (hdA r s i o d).1 0):=by have k:=eval_chainR h;unfold hdA at*;generalize (evalK KkR (orA.take 3) [d,o,i,s,r] 0).1=w at*;obtain⟨p,⟨hp,_⟩,q,⟨hq,hr⟩,sl,⟨hsl,_⟩,hend⟩:=k;subst hend;have e:sl=keptI q mone64 one64:=hsl;show B11 sl;rw[e];have a:=rt_le (show rt d=true from hr.1);have b:=rt_le (show rt p=true from AllR.rt hp);exact kept_b11 (dn_up hq.1 hq.2 (by show d.lo.q-p.hi.q<=d.hi.q-p.lo.q;grind))
theorem hdB_b{r s i o d:I}(h:(hdB r s i o d).2=0):B11 (gt (hdB r s i o d).1 0):=by obtain⟨_,k⟩:=eval_chain h;unfold hdB at*;generalize (evalK KkR (orB.take 5) [d,o,i,s,r] 0).1=w at*;obtain⟨p,hp,q,hq,mx,hmx,dv,hdv,sl,hsl,hend⟩:=k;subst hend;have e:sl=keptI dv mone64 one64:=hsl;have r0:rt dv=true:=AllR.rt hdv.2;show B11 sl;rw[e];exact kept_b11 r0
theorem hull_rt{a b:I}(ha:rt a=true)(hb:rt b=true):rt (hullI a b)=true:=by have x:=oTz ha;have y:=oTz hb;refine dT ?_;show(mnF a.lo b.lo).k<=(mxF a.hi b.hi).k;rw[mnF_k,mxF_k];omega
theorem hdC_b{r s i o d:I}(h:(hdC r s i o d).2=0)(h0:(orQ KkR i o d).lo.k<z64.k):B11 (gt (hdC r s i o d).1 0):=by
 have q0:orQ KkR i o d=gt (hdC r s i o d).1 6:=by
  have e:hdC r s i o d=evalK KkR ((orC.take 8).drop 2) (evalK KkR ((orC.take 8).take 2) [d,o,i,s,r] 0).1 (evalK KkR ((orC.take 8).take 2) [d,o,i,s,r] 0).2:=by rw[<-eval_app,List.take_append_drop];rfl
  rw[e];have g:=eval_regs (K:=KkR) (l:=(orC.take 8).drop 2) (v:=(evalK KkR ((orC.take 8).take 2) [d,o,i,s,r] 0).1) (e:=(evalK KkR ((orC.take 8).take 2) [d,o,i,s,r] 0).2) 0;exact Eq.symm g
 rw[q0]at h0;obtain⟨_,k⟩:=eval_chain h;unfold hdC at*;generalize (evalK KkR (orC.take 8) [d,o,i,s,r] 0).1=w at*;obtain⟨p,hp,q,hq,hp',hhp,mx,hmx,up,hup,hn,hhn,hu,hhu,sl,hsl,hend⟩:=k;subst hend;have e:sl=keptI hu mone64 one64:=hsl;have e1:hu=hullI hn up:=hhu;have e2:hn=negH q:=hhn;have r0:rt up=true:=AllR.rt hup.2;have r1:rt hn=true:=by rw[e2];exact dT (Int.le_of_lt h0)
 show B11 sl;rw[e,e1];exact kept_b11 (hull_rt r1 r0)
theorem or_val{r s i o d:I}(hr:Uz1 r)(hs:Uz1 s):orR KkR r s i o d=bif neB (hdS r s i o d).2 then(I.zero,(hdS r s i o d).2)else(orV r s (gt (hdS r s i o d).1 0),0):=by
 unfold orR hdS;cases c1:decide ((orQ KkR i o d).hi.k<=z64.k)
 ·cases c2:decide (z64.k<=(orQ KkR i o d).lo.k)
  ·exact tail_of (n:=8) (p:=[]) rfl or_same.2.2 hr hs (fun h=>hdC_b h (by have:=of_decide_eq_false c2;omega))
  ·exact tail_of (n:=5) (p:=[]) rfl or_same.2.1 hr hs hdB_b
 ·exact tail_of (n:=3) (p:=[]) rfl or_same.1 hr hs hdA_b
theorem hdS_b{r s i o d:I}(h:(hdS r s i o d).2=0):B11 (gt (hdS r s i o d).1 0):=by
 unfold hdS at*;cases c1:decide ((orQ KkR i o d).hi.k<=z64.k)
 ·cases c2:decide (z64.k<=(orQ KkR i o d).lo.k)
  ·rw[c1,c2]at h;exact hdC_b h (by have:=of_decide_eq_false c2;omega)
  ·rw[c1,c2]at h;exact hdB_b h
 ·rw[c1]at h;exact hdA_b h
structure SlH (i o d p q:I):Prop where
 m:KkR.mul 0 i o=(p,0)
 s:KkR.sub 0 d p=(q,0)
def SlP(i o d sl:I):Prop:=∃p q,SlH i o d p q/\
 ((q.hi.k<=z64.k/\sl=keptI q mone64 one64)\/
  (z64.k<q.hi.k/\z64.k<=q.lo.k/\∃mx dv,KkR.max 0 i o=(mx,0)/\KkR.div 0 q mx=(dv,0)/\sl=keptI dv mone64 one64)\/
  (z64.k<q.hi.k/\q.lo.k<z64.k/\∃mx up,KkR.max 0 i o=(mx,0)/\KkR.div 0 (posH q) mx=(up,0)/\sl=keptI (hullI (negH q) up) mone64 one64))
theorem orQ_of{i o d p q:I}(h:SlH i o d p q):orQ KkR i o d=q:=by unfold orQ;rw[h.m];show(KkR.sub 0 d p).1=q;rw[h.s]
section
variable {r s i o d p q mx dv:I}
theorem hdA_eq(h:SlH i o d p q):hdA r s i o d=([keptI q mone64 one64,q,p,d,o,i,s,r],0):=by unfold hdA;have e1:stepK KkR (.mul 2 1) [d,o,i,s,r] 0=(p,0):=h.m;have e2:stepK KkR (.sub 1 0) [p,d,o,i,s,r] 0=(q,0):=h.s;show evalK KkR [.mul 2 1,.sub 1 0,.kept mone64 one64 0] [d,o,i,s,r] 0=_;rw[eval_cons e1,eval_cons e2];rfl
theorem hdB_eq(h:SlH i o d p q)(hm:KkR.max 0 i o=(mx,0))(hd:KkR.div 0 q mx=(dv,0)):hdB r s i o d=([keptI dv mone64 one64,dv,mx,q,p,d,o,i,s,r],0):=by unfold hdB;have e1:stepK KkR (.mul 2 1) [d,o,i,s,r] 0=(p,0):=h.m;have e2:stepK KkR (.sub 1 0) [p,d,o,i,s,r] 0=(q,0):=h.s;have e3:stepK KkR (.max 4 3) [q,p,d,o,i,s,r] 0=(mx,0):=hm;have e4:stepK KkR (.div 1 0) [mx,q,p,d,o,i,s,r] 0=(dv,0):=hd;show evalK KkR [.mul 2 1,.sub 1 0,.max 4 3,.div 1 0,.kept mone64 one64 0] [d,o,i,s,r] 0=_;rw[eval_cons e1,eval_cons e2,eval_cons e3,eval_cons e4];rfl
theorem hdC_eq(h:SlH i o d p q)(hm:KkR.max 0 i o=(mx,0))(hd:KkR.div 0 (posH q) mx=(dv,0)):hdC r s i o d=([keptI (hullI (negH q) dv) mone64 one64,hullI (negH q) dv,negH q,dv,mx,posH q,q,p,d,o,i,s,r],0):=by unfold hdC;have e1:stepK KkR (.mul 2 1) [d,o,i,s,r] 0=(p,0):=h.m;have e2:stepK KkR (.sub 1 0) [p,d,o,i,s,r] 0=(q,0):=h.s;have e2':stepK KkR (.fn posH 0) [q,p,d,o,i,s,r] 0=(posH q,0):=rfl;have e3:stepK KkR (.max 5 4) [posH q,q,p,d,o,i,s,r] 0=(mx,0):=hm;have e4:stepK KkR (.div 1 0) [mx,posH q,q,p,d,o,i,s,r] 0=(dv,0):=hd;show evalK KkR [.mul 2 1,.sub 1 0,.fn posH 0,.max 5 4,.div 1 0,.fn negH 3,.fn2 hullI 0 1,.kept mone64 one64 0] [d,o,i,s,r] 0=_;rw[eval_cons e1,eval_cons e2,eval_cons e2',eval_cons e3,eval_cons e4];rfl
end
theorem pr_eq{x:I×Int}(h:x.2=0):x=(x.1,0):=Prod.ext rfl h
theorem head_inv{l:List Bu.Op}{r s i o d:I}(h:(evalK KkR (.mul 2 1:: .sub 1 0::l) [d,o,i,s,r] 0).2=0):∃p q,SlH i o d p q/\evalK KkR (.mul 2 1:: .sub 1 0::l) [d,o,i,s,r] 0=evalK KkR l [q,p,d,o,i,s,r] 0:=by obtain⟨h1,e1⟩:=ev0 h;rw[e1]at h;obtain⟨h2,e2⟩:=ev0 h;exact⟨_,_,⟨pr_eq h1,pr_eq h2⟩,e1.trans e2⟩
theorem hdS_to{r s i o d:I}(h:(hdS r s i o d).2=0):∃sl,SlP i o d sl/\gt (hdS r s i o d).1 0=sl:=by
 unfold hdS at*;cases c1:decide ((orQ KkR i o d).hi.k<=z64.k)
 ·cases c2:decide (z64.k<=(orQ KkR i o d).lo.k)
  ·rw[c1,c2]at h;simp only[cF]at h ⊢;have h':(evalK KkR [.mul 2 1,.sub 1 0,.fn posH 0,.max 5 4,.div 1 0,.fn negH 3,.fn2 hullI 0 1,.kept mone64 one64 0] [d,o,i,s,r] 0).2=0:=h;obtain⟨p,q,hh,e⟩:=head_inv h';rw[e]at h';obtain⟨_,e0⟩:=ev0 h';rw[e0]at h';obtain⟨h3,e3⟩:=ev0 h';rw[e3]at h';obtain⟨h4,e4⟩:=ev0 h';have k1:=of_decide_eq_false c1;have k2:=of_decide_eq_false c2;rw[orQ_of hh]at k1 k2;exact⟨_,⟨p,q,hh,.inr (.inr ⟨by omega,by omega,_,_,pr_eq h3,pr_eq h4,rfl⟩)⟩,by rw[hdC_eq hh (pr_eq h3) (pr_eq h4)];rfl⟩
  ·rw[c1,c2]at h;simp only[cF,cT]at h ⊢;have h':(evalK KkR [.mul 2 1,.sub 1 0,.max 4 3,.div 1 0,.kept mone64 one64 0] [d,o,i,s,r] 0).2=0:=h;obtain⟨p,q,hh,e⟩:=head_inv h';rw[e]at h';obtain⟨h3,e3⟩:=ev0 h';rw[e3]at h';obtain⟨h4,e4⟩:=ev0 h';have k1:=of_decide_eq_false c1;have k2:=oTz c2;rw[orQ_of hh]at k1 k2;exact⟨_,⟨p,q,hh,.inr (.inl ⟨by omega,k2,_,_,pr_eq h3,pr_eq h4,rfl⟩)⟩,by rw[hdB_eq hh (pr_eq h3) (pr_eq h4)];rfl⟩
 ·rw[c1]at h;simp only[cT]at h ⊢;have h':(evalK KkR [.mul 2 1,.sub 1 0,.kept mone64 one64 0] [d,o,i,s,r] 0).2=0:=h;obtain⟨p,q,hh,e⟩:=head_inv h';have k1:=oTz c1;rw[orQ_of hh]at k1;exact⟨_,⟨p,q,hh,.inl ⟨k1,rfl⟩⟩,by rw[hdA_eq hh];rfl⟩
theorem hdS_of{r s i o d sl:I}(h:SlP i o d sl):(hdS r s i o d).2=0/\gt (hdS r s i o d).1 0=sl:=by
 obtain⟨p,q,hh,c⟩:=h;unfold hdS;rw[orQ_of hh];rcases c with⟨a,rfl⟩|⟨a,b,mx,dv,hm,hd,rfl⟩|⟨a,b,mx,dv,hm,hd,rfl⟩
 ·rw[dT a,cT,hdA_eq hh];exact⟨rfl,rfl⟩
 ·rw[dF (show ¬q.hi.k<=z64.k by omega),dT b,cF,cT,hdB_eq hh hm hd];exact⟨rfl,rfl⟩
 ·rw[dF (show ¬q.hi.k<=z64.k by omega),dF (show ¬z64.k<=q.lo.k by omega),cF,cF,hdC_eq hh hm hd];exact⟨rfl,rfl⟩
theorem sl_b{i o d sl:I}(h:SlP i o d sl):B11 sl:=by obtain⟨e1,e2⟩:=hdS_of (r:=I.zero) (s:=I.zero) h;rw[<-e2];exact hdS_b e1
theorem or_eq{r s i o d sl:I}(hr:Uz1 r)(hs:Uz1 s)(h:SlP i o d sl):orR KkR r s i o d=(orV r s sl,0):=by obtain⟨e1,e2⟩:=hdS_of (r:=r) (s:=s) h;rw[or_val hr hs,e1,e2];rfl
theorem or_to{r s i o d:I}(hr:Uz1 r)(hs:Uz1 s)(h:(orR KkR r s i o d).2=0):∃sl,SlP i o d sl/\orR KkR r s i o d=(orV r s sl,0):=by
 rw[or_val hr hs]at h;cases c:neB (hdS r s i o d).2
 ·have z:=neB_0 c;obtain⟨sl,k,e⟩:=hdS_to z;exact⟨sl,k,or_eq hr hs k⟩
 ·rw[c]at h;have h':(hdS r s i o d).2=0:=h;rw[h']at c;cases c
end Go.Proofs.YtejcekikbnlllaaGreat
namespace Bu
open Rx Go
end Bu
namespace Go.Proofs.YtejcekikbnlllaaGreat
open Go.RowKit Bu Rx
theorem rng_in{x l h:F}{o:Obs}(k:ObsOk (rngO x l h o)):(l.k<=x.k/\x.k<=h.k)/\ObsOk o:=by have a:=of_decide_eq_false (ob_h k);have b:=of_decide_eq_false (ob_h (ob_t k));exact⟨⟨by omega,by omega⟩,ob_t (ob_t k)⟩
theorem bnd_of{x l h:F}(k:l.k<=x.k/\x.k<=h.k):ObsOk (bndO (pF x) l h):=ob_c (dT k.2) (ob_c (dT k.1) (ob_c (dT (Int.le_refl _)) ob_n))
theorem uz_of{x:F}(k:z64.k<=x.k/\x.k<=one64.k):Uz1 (pF x):=⟨dT (Int.le_refl _),k.1,k.2⟩
theorem lt3{P:Nat->Prop}{c:Nat}(h:c<3)(p0:P 0)(p1:P 1)(p2:P 2):P c:=by
 rcases (by omega:c=0\/c=1\/c=2)with rfl|rfl|rfl
 ·exact p0
 ·exact p1
 ·exact p2
def Rn(l h:F)(x:F):Prop:=l.k<=x.k/\x.k<=h.k
theorem rt1_in{f:Nat->F}(h:ObsOk (rtOb 1 f)){c:Nat}(hc:c<3):Rn z64 one64 (f c):=by have h:ObsOk (rtO1 f):=h;obtain⟨a2,h⟩:=rng_in (ob_t h);obtain⟨a1,h⟩:=rng_in h;obtain⟨a0,_⟩:=rng_in h;exact lt3 (P:=fun c=>Rn z64 one64 (f c)) hc a0 a1 a2
theorem rt2_in{f:Nat->F}(h:ObsOk (rtOb 2 f)){c:Nat}(hc:c<3):Rn z64 one64 (f c)/\Rn z64 one64 (f 12):=by have h:ObsOk (rtO2 f):=h;obtain⟨a3,h⟩:=rng_in (ob_t h);obtain⟨a2,h⟩:=rng_in h;obtain⟨a1,h⟩:=rng_in h;obtain⟨a0,_⟩:=rng_in h;exact⟨lt3 (P:=fun c=>Rn z64 one64 (f c)) hc a0 a1 a2,a3⟩
theorem rt3_in{f:Nat->F}(h:ObsOk (rtOb 3 f)):Rn minA one64 (f 13)/\Rn minIo four64 (f 14):=by have h:ObsOk (rtO3 f):=h;obtain⟨a3,h⟩:=rng_in (ob_t h);obtain⟨a2,_⟩:=rng_in h;exact⟨a2,a3⟩
theorem rt4_in{f:Nat->F}(h:ObsOk (rtOb 4 f)){c:Nat}(hc:c<3):Rn minA one64 (f 13)/\Rn minMt maxMt (f (6+c))/\Rn minMt maxMt (f (9+c)):=by have h:ObsOk (rtO4 f):=h;obtain⟨b2,h⟩:=rng_in (ob_t h);obtain⟨b1,h⟩:=rng_in h;obtain⟨b0,h⟩:=rng_in h;obtain⟨a2,h⟩:=rng_in h;obtain⟨a1,h⟩:=rng_in h;obtain⟨a0,h⟩:=rng_in h;obtain⟨al,_⟩:=rng_in h;exact⟨al,lt3 (P:=fun c=>Rn minMt maxMt (f (6+c))) hc a0 a1 a2,lt3 (P:=fun c=>Rn minMt maxMt (f (9+c))) hc b0 b1 b2⟩
theorem rt_kind{k:Int}{f:Nat->F}(h:ObsOk (rtOb k f)):k=1\/k=2\/k=3\/k=4:=by
 unfold rtOb at h;split at h
 ·exact .inl rfl
 ·exact .inr (.inl rfl)
 ·exact .inr (.inr (.inl rfl))
 ·exact .inr (.inr (.inr rfl))
 ·exact absurd (ob_h h) (by simp)
structure LfO (l:Lf):Prop where
 r:ObsOk (rtOb l.k l.f)
 v:ObsOk (dirO l.v)
 u:ObsOk (dirO l.u)
 c0:0<=l.c
 c3:l.c<3
theorem LfO.n{l:Lf}(h:LfO l):l.c.toNat<3:=by have:=h.c0;have:=h.c3;omega
theorem LfO.ch{l:Lf}(h:LfO l):ObsOk (chO l):=ob_c (dT h.c3) (ob_c (dT h.c0) ob_n)
theorem LfO.lk{l:Lf}(h:LfO l):ObsOk (lkOl l):=ob_a h.u (ob_a h.v (ob_a (ob_c (dT h.c3) (ob_c (dT h.c0) ob_n)) h.r))
theorem LfO.gl{l:Lf}(h:LfO l)(a:Rn minA one64 (l.f 13)):ObsOk (glO l.v l.u (pF (l.f 13))):=ob_a (bnd_of a) (ob_a h.v h.u)
theorem LfO.val{l:Lf}(h:LfO l):ObsOk (vlO l):=by
 have r:=h.r;have lk:=h.lk;have ch:=h.ch;have n:=h.n;have hv:=h.v;have hu:=h.u;have hg:=h.gl;unfold vlO;rcases rt_kind r with e|e|e|e<;>rw[e]at r ⊢
 ·exact ob_a lk (ob_a ch (bnd_of (rt1_in r n)))
 ·obtain⟨a,b⟩:=rt2_in r n;exact ob_a lk (ob_a ch (ob_a (bnd_of a) (ob_a (bnd_of b) (ob_a hv hu))))
 ·obtain⟨a,b⟩:=rt3_in r;exact ob_a lk (ob_a (hg a) (bnd_of b))
 ·obtain⟨a,b,c⟩:=rt4_in r n;exact ob_a lk (ob_a ch (ob_a (hg a) (ob_a (bnd_of b) (bnd_of c))))
theorem LfO.den{l:Lf}(h:LfO l):ObsOk (dnO4 l):=by
 have r:=h.r;have lk:=h.lk;have ch:=h.ch;have n:=h.n;have hv:=h.v;have hg:=h.gl;unfold dnO4;rcases rt_kind r with e|e|e|e<;>rw[e]at r ⊢
 ·exact ob_a lk (dir_z hv)
 ·exact ob_a lk (dir_z hv)
 ·exact ob_a lk (hg (rt3_in r).1)
 ·exact ob_a lk (hg (rt4_in r n).1)
theorem bal_of{x:F}(h:Rn minA one64 x):InB (pF x) bal:=⟨h.1,h.2,Int.le_refl _⟩
theorem bn_of{x:F}(h:Rn minIo four64 x):InB (pF x) bn:=⟨h.1,h.2,Int.le_refl _⟩
theorem box_lb:lbV.all monoB=true/\(evalK KkR lbV [bz1] 0).2=0/\z64.k<=(gt (evalK KkR lbV [bz1] 0).1 0).lo.k/\(evalK KkR lbV [bzz] 0).2=0/\z64.k<(gt (evalK KkR lbV [bzz] 0).1 0).lo.k/\dtP.all monoB=true/\(evalK KkR dtP [bzz,b11,b11,bzz,b11,b11] 0).2=0/\tw1 dtP dtP [3,4,5,0,1,2] 0 0=true:=by decide+kernel
theorem lb_ok{a:I}(h:Uz1 a):∃r,lnR (lbK KkR a) 0=(r,0)/\rt r=true/\z64.k<=r.lo.k:=by obtain⟨m,e,l,_⟩:=box_lb;have b:=box (v:=[a]) (w:=[bz1]) m ⟨h.box,trivial⟩ e;have b1:(lbK KkR a).2=0:=b.1;exact⟨_,lnR_0 b1,(b.2 0).rt,Int.le_trans l (b.2 0).inB.1⟩
def dtV(v u:V3):I:=gt (dtK KkR v u).1 0
theorem meO_eq{f:Nat->F}{c:Nat}{v u:V3}(hz:(dtK KkR v u).2=0):meO KkR GmR f c v u=orR KkR (pF (f c)) (pF (f 12)) v.z u.z (dtV v u):=by unfold meO;rw[hz];rfl
end Go.Proofs.YtejcekikbnlllaaGreat
namespace Bu
open Rx Go
def inbB(a b:I):Bool:=decide (b.lo.k<=a.lo.k)&&decide (a.hi.k<=b.hi.k)
theorem less_B:(decide ((cSub dSub 0 (pt one64) bz1).2=0)&&inbB (cSub dSub 0 (pt one64) bz1).1 bz1)=true:=by decide+kernel
theorem inB_tr{a b c:I}(h:InB a b)(k:inbB b c=true):InB a c:=by unfold inbB at k;rw[aTz,decide_eq_true_eq,decide_eq_true_eq]at k;exact⟨Int.le_trans k.1 h.1,Int.le_trans h.2.1 k.2,h.2.2⟩
theorem less_in{x:I}(hx:InB x bz1):∃r,KkR.sub 0 (pt one64) x=(r,0)/\InB r bz1:=by have k:=less_B;rw[aTz,decide_eq_true_eq]at k;obtain⟨r,e,n⟩:=sub_inn (a:=pt one64) (InB.inn ⟨Int.le_refl _,Int.le_refl _,Int.le_refl _⟩) hx.inn k.1;exact⟨r,e,inB_tr n.inB k.2⟩
theorem pt_z1{w:F}(hw:z64.k<=w.k/\w.k<=one64.k):InB (pt w) bz1:=⟨hw.1,hw.2,Int.le_refl _⟩
theorem zz_k:F.zero.k=z64.k:=by decide+kernel
theorem zs_get{f:Nat->F}{js:List Nat}(h:zsB f js=true){j:Nat}(hj:j∈js):(f j).k=z64.k:=(oTz (List.all_eq_true.1 h j hj)).trans zz_k
theorem rn_get{l h:F}{f:Nat->F}{js:List Nat}(k:rsB l h f js=true){j:Nat}(hj:j∈js):l.k<=(f j).k/\(f j).k<=h.k:=by
 have:=List.all_eq_true.1 k j hj;unfold rnB at this
 simpa using this
theorem rn_one{l h x:F}(k:rnB l h x=true):l.k<=x.k/\x.k<=h.k:=by unfold rnB at k;simpa using k
end Bu
namespace Go.Proofs.YtejcekikbnlllaaGreat
open Go.RowKit Bu Rx
theorem rng_mk{x l h:F}{o:Obs}(k:l.k<=x.k/\x.k<=h.k)(ho:ObsOk o):ObsOk (rngO x l h o):=ob_c (dF (by omega)) (ob_c (dF (by omega)) ho)
theorem nd_leaf{n:Nd}{p:Int}(h:okNd n p=true)(h5:n.k≠5)(h6:n.k≠6):ObsOk (rtOb n.k (etaF n.f)):=by
 obtain⟨k,f,a,b⟩:=n;simp only at h5 h6;unfold okNd at h;simp only[dF h5,dF h6,cF,Bool.false_and]at h;by_cases h1:k=1
 ·subst h1;simp only[decide_true,cT,aTz]at h;obtain⟨r,z,_⟩:=h;have q:∀j,j∈ [3,4,5,6,7,8,9,10,11,12,13,14,15]->(f j).k=z64.k:=fun j hj=>zs_get z hj;have g:∀j,j∈ [0,1,2]->z64.k<=(f j).k/\(f j).k<=one64.k:=fun j hj=>rn_get r hj;show ObsOk (rtO1 (etaF f));refine ob_c ?_ (rng_mk (g 2 (by decide)) (rng_mk (g 1 (by decide)) (rng_mk (g 0 (by decide)) ob_n)));unfold eqNd q3E;simp only[aTz,decide_eq_true_eq];exact⟨⟨rfl,rfl,rfl,trivial⟩,⟨q 3 (by decide),q 4 (by decide),q 5 (by decide),trivial⟩,⟨q 6 (by decide),q 7 (by decide),q 8 (by decide),trivial⟩,⟨q 9 (by decide),q 10 (by decide),q 11 (by decide),trivial⟩,q 12 (by decide),q 13 (by decide),q 14 (by decide),q 15 (by decide),rfl,rfl,trivial⟩
 simp only[dF h1,cF]at h;by_cases h2:k=2
 ·subst h2;simp only[decide_true,cT,aTz]at h;obtain⟨r,z,_⟩:=h;have q:∀j,j∈ [3,4,5,6,7,8,9,10,11,13,14,15]->(f j).k=z64.k:=fun j hj=>zs_get z hj;have g:∀j,j∈ [12,0,1,2]->z64.k<=(f j).k/\(f j).k<=one64.k:=fun j hj=>rn_get r hj;show ObsOk (rtO2 (etaF f));refine ob_c ?_ (rng_mk (g 12 (by decide)) (rng_mk (g 2 (by decide)) (rng_mk (g 1 (by decide)) (rng_mk (g 0 (by decide)) ob_n))));unfold eqNd q3E;simp only[aTz,decide_eq_true_eq];exact⟨⟨rfl,rfl,rfl,trivial⟩,⟨q 3 (by decide),q 4 (by decide),q 5 (by decide),trivial⟩,⟨q 6 (by decide),q 7 (by decide),q 8 (by decide),trivial⟩,⟨q 9 (by decide),q 10 (by decide),q 11 (by decide),trivial⟩,rfl,q 13 (by decide),q 14 (by decide),q 15 (by decide),rfl,rfl,trivial⟩
 simp only[dF h2,cF]at h;by_cases h3:k=3
 ·subst h3;simp only[decide_true,cT,aTz]at h;obtain⟨r1,r2,z,_⟩:=h;have q:∀j,j∈ [0,1,2,3,4,5,6,7,8,9,10,11,12,15]->(f j).k=z64.k:=fun j hj=>zs_get z hj;show ObsOk (rtO3 (etaF f));refine ob_c ?_ (rng_mk (rn_one r2) (rng_mk (rn_one r1) ob_n));unfold eqNd q3E;simp only[aTz,decide_eq_true_eq];exact⟨⟨q 0 (by decide),q 1 (by decide),q 2 (by decide),trivial⟩,⟨q 3 (by decide),q 4 (by decide),q 5 (by decide),trivial⟩,⟨q 6 (by decide),q 7 (by decide),q 8 (by decide),trivial⟩,⟨q 9 (by decide),q 10 (by decide),q 11 (by decide),trivial⟩,q 12 (by decide),rfl,rfl,q 15 (by decide),rfl,rfl,trivial⟩
 simp only[dF h3,cF]at h;by_cases h4:k=4
 ·subst h4;simp only[decide_true,cT,aTz]at h;obtain⟨r1,r2,z,_⟩:=h;have q:∀j,j∈ [0,1,2,3,4,5,12,14,15]->(f j).k=z64.k:=fun j hj=>zs_get z hj;have g:∀j,j∈ [6,7,8,9,10,11]->minMt.k<=(f j).k/\(f j).k<=maxMt.k:=fun j hj=>rn_get r2 hj;show ObsOk (rtO4 (etaF f));refine ob_c ?_ (rng_mk (g 11 (by decide)) (rng_mk (g 10 (by decide)) (rng_mk (g 9 (by decide)) (rng_mk (g 8 (by decide)) (rng_mk (g 7 (by decide)) (rng_mk (g 6 (by decide)) (rng_mk (rn_one r1) ob_n)))))));unfold eqNd q3E;simp only[aTz,decide_eq_true_eq];exact⟨⟨q 0 (by decide),q 1 (by decide),q 2 (by decide),trivial⟩,⟨q 3 (by decide),q 4 (by decide),q 5 (by decide),trivial⟩,⟨rfl,rfl,rfl,trivial⟩,⟨rfl,rfl,rfl,trivial⟩,q 12 (by decide),rfl,q 14 (by decide),q 15 (by decide),rfl,rfl,trivial⟩
 simp only[dF h4,cF]at h;cases h
end Go.Proofs.YtejcekikbnlllaaGreat
namespace Bu
open Rx Go
def frHd:List Bu.Op:=frD.take 6
def frTl:List Bu.Op:=frD.drop 7
theorem fr_box:(evalK KkR frD [bz1,bn] 0).2=0/\(evalK KkR frHd [bz1,bn] 0).2=0/\frD.all monoB=true/\frHd.all monoB=true/\frTl.all monoB=true:=by decide+kernel
theorem fr_box3:z64.k<=(gt (evalK KkR frD [bz1,bn] 0).1 0).lo.k/\(gt (evalK KkR frD [bz1,bn] 0).1 0).hi.k<=one64.k/\z64.k<=bzz.lo.k:=by decide+kernel
end Bu
namespace Go.Proofs.YtejcekikbnlllaaGreat
open Go.RowKit Bu Rx
theorem fd_all{c n:I}(hc:InB c bz1)(hn:InB n bn):∃f,lnR (fdK KkR c n) 0=(f,0)/\Uz1 f:=by obtain⟨e,_,m,_⟩:=fr_box;obtain⟨l,h,_⟩:=fr_box3;have b:=box (v:=[c,n]) (w:=[bz1,bn]) m ⟨hc,hn,trivial⟩ e;have k:=(b.2 0).inB;exact⟨gt (evalK KkR frD [c,n] 0).1 0,lnR_0 (E:=evalK KkR frD [c,n] 0) (i:=0) b.1,(b.2 0).rt,Int.le_trans l k.1,Int.le_trans k.2.1 h⟩
theorem obsB_of{o:Obs}(h:ObsOk o):Bu.obsB o=true:=List.all_eq_true.2 fun p hp=>by simp[h p hp]
theorem okNd_mixw{n:Nd}{p:Int}(h:okNd n p=true)(h5:n.k=5):z64.k<=(n.f 15).k/\(n.f 15).k<=one64.k:=by unfold okNd at h;rw[h5]at h;simp only[aTz,Int.reduceEq,decide_false,decide_true,cF,cT]at h;exact rn_one h.1
theorem okNd_coatf{n:Nd}{p:Int}(h:okNd n p=true)(h6:n.k=6):Rn minIo four64 (n.f 14)/\∀j,j∈ [3,4,5]->z64.k<=(n.f j).k/\(n.f j).k<=one64.k:=by unfold okNd at h;rw[h6]at h;simp only[aTz,Int.reduceEq,decide_false,decide_true,cF,Bool.true_and]at h;exact⟨rn_one h.1,fun j hj=>rn_get h.2.1 hj⟩
theorem fd_o{c:I}{x:F}(hc:InB c bz1)(hx:Rn minIo four64 x):ObsOk (fdO c (pF x)):=ob_a (bnd_of hx) (ob_c (dT hc.2.1) (ob_c (dT hc.1) (ob_c (dT hc.2.2) ob_n)))
theorem coatC_st{o s x y z:I}{a:Ch}(h1:KkR.sub 0 (pt one64) o=(s,0))(h2:KkR.mul 0 s a.p=(x,0))(h3:KkR.mul 0 s a.m=(y,0))(h4:KkR.add 0 o y=(z,0)):coatC KkR o a=(⟨x,z⟩,0):=by unfold coatC lessK;have e1:KkR.num 0 one_=(pt one64,0):=rfl;simp only[e1,h1,h2,h3,h4]
end Go.Proofs.YtejcekikbnlllaaGreat
