/- weigh.Weigh: of anything drawn. weigh.Weigh: the known function of anything drawn. .. -/
import Derived.Test.YtejcekikbnlllaaGreatU15
set_option linter.all false
open Go.Proofs.Tryz(prog)
namespace Go.Proofs.YtejcekikbnlllaaGreat
open Go.RowKit Bu Rx
noncomputable def WgN:Nwg:=⟨KkR,okPg,unV KkR,unB,EvR,CeR⟩
theorem oracleWg:OracleOk prog (OWg WgN):=
 .cons (show RdOk prog 50 (kRgt okPg)from rgtG).of <| .cons unNG.of <| .cons stG.of <| .cons eeK.of <| .cons deK.of <|oracleCL
def OWw(o:List SV->Nat->Bool)(un:F->F->F->V3)(ub:F->F->F->Bool):OracleF:=lookO [(50,kRd 19 (kRgt o)),(17,eiO (plainO kUw) (plainO (kUnN un ub))),(110,plainO (kSt ub))]
noncomputable def wwRun(o:List SV->Nat->Bool)(un:F->F->F->V3)(ub:F->F->F->Bool)(e:TypeId)(cells:List SV)(off len cap:Nat)(x y z:F)(k:Int)(a b c:Nat)(r:R8)(d:List Bool):=
 ((run prog EG (OWw o un ub) 80).1 24 [.ssl 0 off len cap,.agg [.fl x,.fl y,.fl z],.agg ([.si .u8 k,.f a,.f b,.f c]++r.l)] [⟨e,cells,.num⟩] (some d)).map (fun q=>(q.1,q.2.1.take 1,q.2.2))
def wwO(a b c:Nat):Obs:=[(Nat.blt a 18446744073709551616,true),(Nat.blt b 18446744073709551616,true),(Nat.blt c 18446744073709551616,true),(rt3W a b c,false)]
def wwE(ub:F->F->F->Bool)(x y z:F):Int:=bif ub x y z then 0 else 50
section
variable (o:List SV->Nat->Bool) (un:F->F->F->V3) (ub:F->F->F->Bool) (e:TypeId) (cells:List SV) (off len cap:Nat) (x y z:F) (k:Int) (a b c:Nat) (r:R8)
def wwH(o:List SV->Nat->Bool)(ub:F->F->F->Bool)(cs:List SV)(len:Nat)(x y z:F)(a b c:Nat):Obs:=(ub x y z,true)::(wwO a b c++((wwE ub x y z != 0,false):: [(o cs len,true)]))
theorem wwR_u:wwRun o un ub e cells off len cap x y z k a b c r [true]=some (wgZ (.i .i64 50),[⟨e,cells,.num⟩],some [],(wwE ub x y z != 0,true):: [(o (cutC cells off len) len,true)]):=by unfold wwRun;kernel_rfl
theorem wwR_fail:wwRun o un ub e cells off len cap x y z k a b c r [false,true,true]=some (wgZ (.i .i64 0),[⟨e,cells,.num⟩],some [],(k==0,true)::(k==0,true)::wwH o ub (cutC cells off len) len x y z a b c):=by unfold wwRun;kernel_rfl
theorem wwR_m:wwRun o un ub e cells off len cap x y z k a b c r [false,false,true]=some (wgZ (.i .i64 230),[⟨e,cells,.num⟩],some [],(k==1,true)::(k==0,false)::wwH o ub (cutC cells off len) len x y z a b c):=by unfold wwRun;kernel_rfl
theorem wwR_d:wwRun o un ub e cells off len cap x y z k a b c r [false,false,false,true]=some (wgZ (.i .i64 230),[⟨e,cells,.num⟩],some [],(k==2,true)::(k==1,false)::(k==0,false)::wwH o ub (cutC cells off len) len x y z a b c):=by unfold wwRun;kernel_rfl
theorem wwR_o:wwRun o un ub e cells off len cap x y z k a b c r [false,false,false,false]=some (wgZ (.i .i64 230),[⟨e,cells,.num⟩],some [],(k==2,false)::(k==1,false)::(k==0,false)::wwH o ub (cutC cells off len) len x y z a b c):=by unfold wwRun;kernel_rfl
theorem wgNil:valR ((run prog EG (lookO [(50,plainO kNilR)]) 60).1 24 [.o (.slice none 0 0),.agg [.fl x,.fl y,.fl z],.agg ([.si .u8 k,.f a,.f b,.f c]++r.l)] [] (some []))=some (wgZ (.i .i64 210),some [],[]):=by kernel_rfl
end
def fW:SV->Option Nat
 | .f w=>some w
 | .fl x=>some x.b
 |_=>none
theorem fW_pl{s:SV}{w:Nat}(h:fW s=some w):plain s=some (.float .f64 w):=by
 unfold fW at h;split at h
 ·cases h;rfl
 ·cases h;rfl
 ·cases h
structure Nwt where
 g:List SV->Nat->F->F->F->Int->Nat->Nat->Nat->WgR
 o:List SV->Nat->F->F->F->Int->Nat->Nat->Nat->Obs
def wtZ(x y z:F)(k:Int):WgR:=bif unB x y z then bif k==0 then wgZr 0 else wgZr 230 else wgZr 50
noncomputable def WtR:Nwt:=⟨fun cs len x y z k a b c=>bif rt3W a b c then wgF WgN cs len x y z k (toF a) (toF b) (toF c)else wtZ x y z k,
 fun cs len x y z k a b c=>(decide (cs.length=len*19),true)::(okPg cs len,true)::(bif rt3W a b c then wgOb WgN cs len x y z k (toF a) (toF b) (toF c)else[(Nat.blt a 18446744073709551616,true),(Nat.blt b 18446744073709551616,true),(Nat.blt c 18446744073709551616,true)])⟩
def kWgA(T:Nwt):RdF:=fun cs len l ds=>match l with
 | [.agg [.fl x, .fl y, .fl z], .agg [kk, wa, wb, wc, b0, b1, b2, b3, b4, b5, nn, .b _]] => match intS kk, fW wa, fW wb, fW wc, fW b0, fW b1, fW b2, fW b3, fW b4, fW b5, intS nn with
   |some (.u8,k),some a,some b,some c,some _,some _,some _,some _,some _,some _,some (.i64,_)=>some (wgSvR (T.g cs len x y z k a b c),ds,T.o cs len x y z k a b c)
   |_,_,_,_,_,_,_,_,_,_,_=>none
 |_=>none
theorem wgSv_pl(r:WgR):plain (wgSvR r)=some (wgVal r):=rfl
theorem oracleWw:OracleOk prog (OWw okPg (unV KkR) unB):= .cons (show RdOk prog 50 (kRgt okPg)from rgtG).of (.cons (eiO_ok unWG.of unNG.of) (.cons stG.of (.nil _)))
theorem rt3_ex{x y z:Nat}(h:rt3W x y z=true):∃a b c:F,x=a.b/\y=b.b/\z=c.b:=by unfold rt3W at h;rw[aTz,aTz]at h;obtain⟨a,ha⟩:=F_of_right h.1.1;obtain⟨b,hb⟩:=F_of_right h.1.2;obtain⟨c,hc⟩:=F_of_right h.2;exact⟨a,b,c,ha.symm,hb.symm,hc.symm⟩
set_option maxRecDepth 20000 in
theorem wgAG:RdOk prog 24 (kWgA WtR):=by
 intro cs len l ds r0 ds' ob h ho;unfold kWgA at h;split at h
 ·rename_i x y z kk wa wb wc b0 b1 b2 b3 b4 b5 nn s;split at h
  ·rename_i k a b c r1 r2 r3 r4 r5 r6 n ek ea eb ec e0 e1 e2 e3 e4 e5 en;simp only[sIz,pIz]at h;obtain⟨rfl,_,rfl⟩:=h;have hpl:plains [.agg [.fl x,.fl y,.fl z],.agg [kk,wa,wb,wc,b0,b1,b2,b3,b4,b5,nn,.b s]]=some [.agg #[.float .f64 x.b,.float .f64 y.b,.float .f64 z.b],.agg #[.int .u8 k,.float .f64 a,.float .f64 b,.float .f64 c,.float .f64 r1,.float .f64 r2,.float .f64 r3,.float .f64 r4,.float .f64 r5,.float .f64 r6,.int .i64 n,.bool s]]:=
    plains_cons rfl (plains_cons (plain_agg (plains_cons (intS_plain ek) (plains_cons (fW_pl ea) (plains_cons (fW_pl eb) (plains_cons (fW_pl ec) (plains_cons (fW_pl e0) (plains_cons (fW_pl e1) (plains_cons (fW_pl e2) (plains_cons (fW_pl e3) (plains_cons (fW_pl e4) (plains_cons (fW_pl e5) (plains_cons (intS_plain en) (plains_cons rfl plains_nil))))))))))))) plains_nil)
   have ho':ObsOk ((decide (cs.length=len*19),true)::(okPg cs len,true)::(bif rt3W a b c then wgOb WgN cs len x y z k (toF a) (toF b) (toF c)else[(Nat.blt a 18446744073709551616,true),(Nat.blt b 18446744073709551616,true),(Nat.blt c 18446744073709551616,true)])):=ho;obtain⟨h1,ho'⟩:=ob_h2 ho';obtain⟨h2,ho'⟩:=ob_h2 ho';have hl:cs.length=len*19:=oTz h1;obtain⟨vc,hc⟩:=(okPg_ok h2).pl;have hE:WtR.g cs len x y z k a b c=bif rt3W a b c then wgF WgN cs len x y z k (toF a) (toF b) (toF c)else wtZ x y z k:=rfl
   rw[hE];cases g:rt3W a b c
   ·rw[cF];rw[g,cF]at ho';obtain⟨ha,ho'⟩:=ob_h2 ho';obtain⟨hb,ho'⟩:=ob_h2 ho';obtain⟨hcc,_⟩:=ob_h2 ho';refine⟨vc,_,_,hc,hpl,wgSv_pl _,fun w q off cap hw=> ?_⟩;have fin:∀{d:List Bool}{res:SV}(hx:plain res=some (wgVal (wtZ x y z k)))(hr:∀(e:TypeId)(cells:List SV)(off cap:Nat),CellsAt cells off cs->∃ob,wwRun okPg (unV KkR) unB e cells off len cap x y z k a b c ⟨r1,r2,r3,r4,r5,r6,n,s⟩ d=some (res,[⟨e,cells,.num⟩],some [],ob)/\ObsOk ob),
      Calls prog 24 (Value.slice (some ⟨q,off,none⟩) len cap:: [.agg #[.float .f64 x.b,.float .f64 y.b,.float .f64 z.b],.agg #[.int .u8 k,.float .f64 a,.float .f64 b,.float .f64 c,.float .f64 r1,.float .f64 r2,.float .f64 r3,.float .f64 r4,.float .f64 r5,.float .f64 r6,.int .i64 n,.bool s]]).toArray w fun e w'=>e= .returned (wgVal (wtZ x y z k))/\Below w.heap.size w w':=by
     intro d res hx hr;refine rd_of_runT goodG oracleWw 80 (l:=[.agg [.fl x,.fl y,.fl z],.agg ([.si .u8 k,.f a,.f b,.f c]++R8.l ⟨r1,r2,r3,r4,r5,r6,n,s⟩)]) hc rfl hx (fun e cells off cap hca=> ?_) w q off cap hw;obtain⟨ob,h3,h4⟩:=hr e cells off cap hca;exact⟨_,_,ob,h3,h4⟩
    generalize hR:wtZ x y z k=R at fin ⊢;unfold wtZ at hR;cases g0:unB x y z
    ·rw[g0,cF]at hR;subst hR;exact fin (res:=wgZ (.i .i64 50)) rfl fun e cells off cap hca=>⟨_,by have hr:=wwR_u okPg (unV KkR) unB e cells off len cap x y z k a b c ⟨r1,r2,r3,r4,r5,r6,n,s⟩;rw[cut_at hca hl]at hr;exact hr,ob_c (by unfold wwE;rw[g0];rfl) (ob_c h2 ob_n)⟩
    ·rw[g0,cT]at hR;have oH:ObsOk (wwH okPg unB cs len x y z a b c):=ob_c g0 (ob_a (ob_c ha (ob_c hb (ob_c hcc (ob_c g ob_n)))) (ob_c (by unfold wwE;rw[g0];rfl) (ob_c h2 ob_n)));cases gk:(k==0)
     ·rw[gk,cF]at hR;subst hR;cases k1:(k==1)
      ·cases k2:(k==2)
       ·exact fin (res:=wgZ (.i .i64 230)) rfl fun e cells off cap hca=>⟨_,by have hr:=wwR_o okPg (unV KkR) unB e cells off len cap x y z k a b c ⟨r1,r2,r3,r4,r5,r6,n,s⟩;rw[cut_at hca hl]at hr;exact hr,ob_c k2 (ob_c k1 (ob_c gk oH))⟩
       ·exact fin (res:=wgZ (.i .i64 230)) rfl fun e cells off cap hca=>⟨_,by have hr:=wwR_d okPg (unV KkR) unB e cells off len cap x y z k a b c ⟨r1,r2,r3,r4,r5,r6,n,s⟩;rw[cut_at hca hl]at hr;exact hr,ob_c k2 (ob_c k1 (ob_c gk oH))⟩
      ·exact fin (res:=wgZ (.i .i64 230)) rfl fun e cells off cap hca=>⟨_,by have hr:=wwR_m okPg (unV KkR) unB e cells off len cap x y z k a b c ⟨r1,r2,r3,r4,r5,r6,n,s⟩;rw[cut_at hca hl]at hr;exact hr,ob_c k1 (ob_c gk oH)⟩
     ·rw[gk,cT]at hR;subst hR;exact fin (res:=wgZ (.i .i64 0)) rfl fun e cells off cap hca=>⟨_,by have hr:=wwR_fail okPg (unV KkR) unB e cells off len cap x y z k a b c ⟨r1,r2,r3,r4,r5,r6,n,s⟩;rw[cut_at hca hl]at hr;exact hr,ob_c gk (ob_c gk oH)⟩
   ·rw[cT];rw[g,cT]at ho';obtain⟨p,q,t,rfl,rfl,rfl⟩:=rt3_ex g;rw[toF_F,toF_F,toF_F]at ho' ⊢;obtain⟨vc',h3,h4⟩:=wg_all (r:=⟨r1,r2,r3,r4,r5,r6,n,s⟩) oracleWg rfl ho' (vs:=[.agg #[.float .f64 x.b,.float .f64 y.b,.float .f64 z.b],.agg #[.int .u8 k,.float .f64 p.b,.float .f64 q.b,.float .f64 t.b,.float .f64 r1,.float .f64 r2,.float .f64 r3,.float .f64 r4,.float .f64 r5,.float .f64 r6,.int .i64 n,.bool s]]) rfl;exact⟨vc',_,_,h3,hpl,wgSv_pl _,h4⟩
  ·cases h
 ·cases h
def kWgNil:List SV->Dec->Option (SV×Dec×Obs)
 | [.o (.slice none 0 0), .agg [.fl _, .fl _, .fl _], .agg [kk, wa, wb, wc, b0, b1, b2, b3, b4, b5, nn, .b _]], ds => match intS kk, fW wa, fW wb, fW wc, fW b0, fW b1, fW b2, fW b3, fW b4, fW b5, intS nn with
   |some (.u8,_),some _,some _,some _,some _,some _,some _,some _,some _,some _,some (.i64,_)=>some (wgZ (.i .i64 210),ds,[])
   |_,_,_,_,_,_,_,_,_,_,_=>none
 |_,_=>none
set_option maxRecDepth 20000 in
theorem wgNilG:PlainOk prog 24 kWgNil:=by
 intro args ds r0 ds' ob h ho;unfold kWgNil at h;split at h
 ·rename_i x y z kk wa wb wc b0 b1 b2 b3 b4 b5 nn s;split at h
  ·rename_i k a b c r1 r2 r3 r4 r5 r6 n ek ea eb ec e0 e1 e2 e3 e4 e5 en;simp only[sIz,pIz]at h;obtain⟨rfl,_,rfl⟩:=h;refine⟨[.slice none 0 0,.agg #[.float .f64 x.b,.float .f64 y.b,.float .f64 z.b],.agg #[.int .u8 k,.float .f64 a,.float .f64 b,.float .f64 c,.float .f64 r1,.float .f64 r2,.float .f64 r3,.float .f64 r4,.float .f64 r5,.float .f64 r6,.int .i64 n,.bool s]],wgVal (wgZr 210),?_,rfl,fun w=> ?_⟩
   ·exact plains_cons rfl (plains_cons rfl (plains_cons (plain_agg (plains_cons (intS_plain ek) (plains_cons (fW_pl ea) (plains_cons (fW_pl eb) (plains_cons (fW_pl ec) (plains_cons (fW_pl e0) (plains_cons (fW_pl e1) (plains_cons (fW_pl e2) (plains_cons (fW_pl e3) (plains_cons (fW_pl e4) (plains_cons (fW_pl e5) (plains_cons (intS_plain en) (plains_cons rfl plains_nil))))))))))))) plains_nil))
   ·exact calls_of_val goodG (.cons nilRG.of (.nil _)) 60 (wgNil x y z k a b c ⟨r1,r2,r3,r4,r5,r6,n,s⟩) ob_n rfl rfl w
  ·cases h
 ·cases h
def wgA_O(T:Nwt):OF:=eiO (plainO kWgNil) (kRd 19 (kWgA T))
theorem wgA_OG:OfOk prog 24 (wgA_O WtR):=eiO_ok wgNilG.of wgAG.of
structure Npa where
 K:Kk
 o:List SV->Nat->Bool
 D:I->I->I×Int
 dO:I->I->Obs
 uo:Int->I
 u:Int->Bool
def OPa(W:Npa):OracleF:=lookO (OCL W.K++ [(50,kRd 19 (kRgt W.o)),(66,plainO (kI2 W.D W.dO)),(70,plainO (kOf W.uo W.u))])
noncomputable def paC:Code:=bodyOf prog 20
theorem paBody:Tryz.f20.body=some paC:=by kernel_rfl
noncomputable def paIn:Code:=inner (seqR paC)
theorem paC_cut:paC= .seq (seqL paC) (.scope paIn):=by kernel_rfl
noncomputable def paE(e:TypeId)(cells:List SV)(off len cap:Nat)(c:I)(u:Int)(d:Dec):St:=⟨([.ssl 0 off len cap,ivS c,.si .u64 u]:List SV)++List.replicate (Tryz.f20.ntmps-3) (.tup []),[⟨e,cells,.num⟩],d,[]⟩
def paT(off len cap:Nat)(g:SV)(x:Nat->SV):List SV:=
 [.ssl 0 off len cap,x 1,x 2,x 3,.p 1 0,x 5,x 6,x 7,x 8,x 9,.p 3 0,.p 4 0,g,x 13,x 14,x 15,x 16,x 17,x 18,x 19,x 20,x 21,x 22,x 23,x 24,x 25,x 26,x 27,x 28,x 29,x 30,x 31,x 32,x 33,x 34,x 35,x 36,x 37,x 38,x 39,x 40,x 41,x 42,x 43,x 44,x 45,x 46,x 47,x 48,x 49,x 50,x 51,x 52,x 53,x 54,x 55,x 56,x 57,x 58,x 59,x 60,x 61,x 62,x 63,x 64,x 65,x 66,x 67,x 68,x 69,x 70,x 71,x 72,x 73,x 74,x 75,x 76,x 77,x 78,x 79,x 80,x 81,x 82,x 83,x 84,x 85,x 86,x 87,x 88,x 89,x 90,x 91,x 92,x 93,x 94,x 95,x 96,x 97,x 98,x 99,x 100,x 101,x 102,x 103,x 104,x 105,x 106,x 107,x 108,x 109,x 110,x 111,x 112,x 113,x 114,x 115,x 116,x 117,x 118,x 119,x 120,x 121,x 122,x 123,x 124,x 125,x 126,x 127,x 128,x 129,x 130,x 131,x 132,x 133,x 134,x 135,x 136,x 137,x 138,x 139,x 140,x 141,x 142,x 143,x 144,x 145,x 146,x 147,x 148,x 149,x 150,x 151,x 152,x 153,x 154,x 155]
def paM(e:TypeId)(cells:List SV)(c:I)(a er:Int)(s:I)(sure:Bool):List Blk:=[⟨e,cells,.num⟩,⟨33,[.fl c.lo,.fl c.hi],.ex⟩,⟨72,[.si .i64 er],.ex⟩,⟨133,[.p 2 0,.si .i64 a,.fl s.lo,.fl s.hi,.b sure],.ex⟩,⟨33,[.fl one64,.fl one64],.ex⟩]
def paS(e:TypeId)(cells:List SV)(off len cap:Nat)(c:I)(a er:Int)(s:I)(sure:Bool)(g:SV)(x:Nat->SV)(d:Dec):St:=⟨paT off len cap g x,paM e cells c a er s sure,d,[]⟩
noncomputable def paBd:Code:=inner (inner (seqL (post 4 paIn)))
noncomputable def paTl:Code:=seqR (post 4 paIn)
theorem paIn_cut:post 4 paIn= .seq (.block 1 (.loop paBd)) paTl:=by kernel_rfl
end Go.Proofs.YtejcekikbnlllaaGreat
namespace Bu
open Rx Go
def keptF(a:I):I:=keptI a z64 one64
def onB(K:Kk)(er:Int)(s t:I):I×Int:=(keptF (K.div er s t).1,(K.div er s t).2)
def onN(K:Kk)(er:Int)(s t:I):I×Int:=
 let a:=K.sub er s t
 let b:=K.sub a.2 (pt one64) t
 let q:=K.div b.2 a.1 b.1
 (keptF q.1,q.2)
end Bu
namespace Go.Proofs.YtejcekikbnlllaaGreat
open Go.RowKit Bu Rx
section
variable (W:Npa) (e:TypeId) (cells:List SV) (off len cap:Nat) (c:I) (a er:Int) (s:I) (sure:Bool) (x:Nat->SV)
def paHd(cells:List SV)(off len:Nat)(a er:Int):Obs:=[(ckAll cells (off+a.toNat*19) ndCK,true),(ixB a len,true),(er==0,true)]
noncomputable abbrev paR(d:List Bool):St:=aft prog EG (OPa W) 60 paBd (paS e cells off len cap c a er s sure (.b false) x (some d))
noncomputable abbrev pw(cells:List SV)(off:Nat)(a:Int):F:=(nd0 cells off a).f 15
noncomputable abbrev pI(cells:List SV)(off:Nat)(a:Int):I:=⟨(nd0 cells off a).f 14,(nd0 cells off a).f 14⟩
noncomputable abbrev pO(W:Npa)(cells:List SV)(off:Nat)(a:Int)(c:I):I:=(W.D c (pI cells off a)).1
theorem paL_mb:Lands prog EG (OPa W) 60 paBd (paS e cells off len cap c a er s sure (.b false) x (some [true,true,true])) .normal:=by unfold Lands;kernel_rfl
theorem paO_mb:(paR W e cells off len cap c a er s sure x [true,true,true]).ob=(decide (s.hi.k<(pw cells off a).k),true)::(((nd0 cells off a).k==5,true)::paHd cells off len a er):=by kernel_rfl
theorem paM_mb:selM (paR W e cells off len cap c a er s sure x [true,true,true]).M [0,1,2,3,4]=some (paM e cells c (nd0 cells off a).b (onB W.K er s ⟨(pw cells off a),(pw cells off a)⟩).2 (onB W.K er s ⟨(pw cells off a),(pw cells off a)⟩).1 sure):=by kernel_rfl
theorem paT_mb(v:Nat->Value)(M':List Blk):∃y,((paR W e cells off len cap c a er s sure x [true,true,true]).sel [0,1,2,3,4] M' v).T=paT off len cap (.b false) y:=⟨fun k=>((paR W e cells off len cap c a er s sure x [true,true,true]).sel [0,1,2,3,4] [] v).T.getD k .np,by kernel_rfl⟩
theorem paL_mu:Lands prog EG (OPa W) 60 paBd (paS e cells off len cap c a er s sure (.b false) x (some [true,true,false,true])) .normal:=by unfold Lands;kernel_rfl
theorem paO_mu:(paR W e cells off len cap c a er s sure x [true,true,false,true]).ob=(decide (s.lo.k<(pw cells off a).k),true)::(decide (s.hi.k<(pw cells off a).k),false)::(((nd0 cells off a).k==5,true)::paHd cells off len a er):=by kernel_rfl
theorem paM_mu:selM (paR W e cells off len cap c a er s sure x [true,true,false,true]).M [0,1,2,3,4]=some (paM e cells c (nd0 cells off a).b (onB W.K er s ⟨(pw cells off a),(pw cells off a)⟩).2 (onB W.K er s ⟨(pw cells off a),(pw cells off a)⟩).1 false):=by kernel_rfl
theorem paT_mu(v:Nat->Value)(M':List Blk):∃y,((paR W e cells off len cap c a er s sure x [true,true,false,true]).sel [0,1,2,3,4] M' v).T=paT off len cap (.b false) y:=⟨fun k=>((paR W e cells off len cap c a er s sure x [true,true,false,true]).sel [0,1,2,3,4] [] v).T.getD k .np,by kernel_rfl⟩
theorem paL_mn:Lands prog EG (OPa W) 60 paBd (paS e cells off len cap c a er s sure (.b false) x (some [true,true,false,false])) .normal:=by unfold Lands;kernel_rfl
theorem paO_mn:(paR W e cells off len cap c a er s sure x [true,true,false,false]).ob=(decide (s.lo.k<(pw cells off a).k),false)::(decide (s.hi.k<(pw cells off a).k),false)::(((nd0 cells off a).k==5,true)::paHd cells off len a er):=by kernel_rfl
theorem paM_mn:selM (paR W e cells off len cap c a er s sure x [true,true,false,false]).M [0,1,2,3,4]=some (paM e cells c (nd0 cells off a).a (onN W.K er s ⟨(pw cells off a),(pw cells off a)⟩).2 (onN W.K er s ⟨(pw cells off a),(pw cells off a)⟩).1 sure):=by kernel_rfl
theorem paT_mn(v:Nat->Value)(M':List Blk):∃y,((paR W e cells off len cap c a er s sure x [true,true,false,false]).sel [0,1,2,3,4] M' v).T=paT off len cap (.b false) y:=⟨fun k=>((paR W e cells off len cap c a er s sure x [true,true,false,false]).sel [0,1,2,3,4] [] v).T.getD k .np,by kernel_rfl⟩
theorem paL_cn:Lands prog EG (OPa W) 60 paBd (paS e cells off len cap c a er s sure (.b false) x (some [true,false,true,false,false,false])) .normal:=by unfold Lands;kernel_rfl
theorem paO_cn:(paR W e cells off len cap c a er s sure x [true,false,true,false,false,false]).ob=(decide (s.lo.k<(pO W cells off a c).hi.k),false)::(decide (s.hi.k<(pO W cells off a c).lo.k),false)::((W.D c (pI cells off a)).2 != 0,false)::(W.dO c (pI cells off a)++(((nd0 cells off a).k==6,true)::((nd0 cells off a).k==5,false)::paHd cells off len a er)):=by kernel_rfl
theorem paM_cn:selM (paR W e cells off len cap c a er s sure x [true,false,true,false,false,false]).M [0,1,2,3,4]=some (paM e cells c (nd0 cells off a).a (onN W.K er s (pO W cells off a c)).2 (onN W.K er s (pO W cells off a c)).1 sure):=by kernel_rfl
theorem paT_cn(v:Nat->Value)(M':List Blk):∃y,((paR W e cells off len cap c a er s sure x [true,false,true,false,false,false]).sel [0,1,2,3,4] M' v).T=paT off len cap (.b false) y:=⟨fun k=>((paR W e cells off len cap c a er s sure x [true,false,true,false,false,false]).sel [0,1,2,3,4] [] v).T.getD k .np,by kernel_rfl⟩
theorem paL_cb:Lands prog EG (OPa W) 60 paBd (paS e cells off len cap c a er s sure (.b false) x (some [true,false,true,false,true])) (.exit 1):=by unfold Lands;kernel_rfl
theorem paO_cb:(paR W e cells off len cap c a er s sure x [true,false,true,false,true]).ob=(decide (s.hi.k<(pO W cells off a c).lo.k),true)::((W.D c (pI cells off a)).2 != 0,false)::(W.dO c (pI cells off a)++(((nd0 cells off a).k==6,true)::((nd0 cells off a).k==5,false)::paHd cells off len a er)):=by kernel_rfl
theorem paM_cb:selM (paR W e cells off len cap c a er s sure x [true,false,true,false,true]).M [0,1,2,3,4]=some (paM e cells c a (s,er).2 (s,er).1 sure):=by kernel_rfl
theorem paT_cb(v:Nat->Value)(M':List Blk):∃y,((paR W e cells off len cap c a er s sure x [true,false,true,false,true]).sel [0,1,2,3,4] M' v).T=paT off len cap (.b true) y:=⟨fun k=>((paR W e cells off len cap c a er s sure x [true,false,true,false,true]).sel [0,1,2,3,4] [] v).T.getD k .np,by kernel_rfl⟩
theorem paL_cu:Lands prog EG (OPa W) 60 paBd (paS e cells off len cap c a er s sure (.b false) x (some [true,false,true,false,false,true])) (.exit 1):=by unfold Lands;kernel_rfl
theorem paO_cu:(paR W e cells off len cap c a er s sure x [true,false,true,false,false,true]).ob=(decide (s.lo.k<(pO W cells off a c).hi.k),true)::(decide (s.hi.k<(pO W cells off a c).lo.k),false)::((W.D c (pI cells off a)).2 != 0,false)::(W.dO c (pI cells off a)++(((nd0 cells off a).k==6,true)::((nd0 cells off a).k==5,false)::paHd cells off len a er)):=by kernel_rfl
theorem paM_cu:selM (paR W e cells off len cap c a er s sure x [true,false,true,false,false,true]).M [0,1,2,3,4]=some (paM e cells c a (s,er).2 (s,er).1 false):=by kernel_rfl
theorem paT_cu(v:Nat->Value)(M':List Blk):∃y,((paR W e cells off len cap c a er s sure x [true,false,true,false,false,true]).sel [0,1,2,3,4] M' v).T=paT off len cap (.b true) y:=⟨fun k=>((paR W e cells off len cap c a er s sure x [true,false,true,false,false,true]).sel [0,1,2,3,4] [] v).T.getD k .np,by kernel_rfl⟩
theorem paL_lf:Lands prog EG (OPa W) 60 paBd (paS e cells off len cap c a er s sure (.b false) x (some [true,false,false])) (.exit 1):=by unfold Lands;kernel_rfl
theorem paO_lf:(paR W e cells off len cap c a er s sure x [true,false,false]).ob=((nd0 cells off a).k==6,false)::((nd0 cells off a).k==5,false)::paHd cells off len a er:=by kernel_rfl
theorem paM_lf:selM (paR W e cells off len cap c a er s sure x [true,false,false]).M [0,1,2,3,4]=some (paM e cells c a (s,er).2 (s,er).1 sure):=by kernel_rfl
theorem paT_lf(v:Nat->Value)(M':List Blk):∃y,((paR W e cells off len cap c a er s sure x [true,false,false]).sel [0,1,2,3,4] M' v).T=paT off len cap (.b false) y:=⟨fun k=>((paR W e cells off len cap c a er s sure x [true,false,false]).sel [0,1,2,3,4] [] v).T.getD k .np,by kernel_rfl⟩
theorem paL_er:Lands prog EG (OPa W) 60 paBd (paS e cells off len cap c a er s sure (.b false) x (some [false])) (.exit 1):=by unfold Lands;kernel_rfl
theorem paO_er:(paR W e cells off len cap c a er s sure x [false]).ob=[(er==0,false)]:=by kernel_rfl
theorem paM_er:selM (paR W e cells off len cap c a er s sure x [false]).M [0,1,2,3,4]=some (paM e cells c a (s,er).2 (s,er).1 sure):=by kernel_rfl
theorem paT_er(v:Nat->Value)(M':List Blk):∃y,((paR W e cells off len cap c a er s sure x [false]).sel [0,1,2,3,4] M' v).T=paT off len cap (.b false) y:=⟨fun k=>((paR W e cells off len cap c a er s sure x [false]).sel [0,1,2,3,4] [] v).T.getD k .np,by kernel_rfl⟩
end
end Go.Proofs.YtejcekikbnlllaaGreat
namespace Rx
open Go Go.RowKit
theorem RunsB.scope{P:Program}{B:Bs}{c:Code}{s:St}{Φ:St->Prop}(h:RunsB P B c s .ret Φ):RunsB P B (.scope c) s .ret Φ:=by intro m a w Q hs hg hq;refine wp_scope_straight (h m a w _ hs hg fun t m' a' w' h1 hst hg'=> ?_);exact hq t m' a' w' h1 hst hg'
end Rx
namespace Bu
open Rx Go
structure Pst where
 a:Nat
 s:I
 sure:Bool
 er:Int
def pathF(K:Kk)(D:I->I->I×Int)(c:I)(cs:List SV):Nat->Pst->Pst×Bool
 |0,p=>(p,false)
 | n + 1, p =>
   bif decide (p.er=0)then
    bif decide ((ndR cs (p.a*19)).k=5)then
     bif decide (p.s.hi.k<((ndR cs (p.a*19)).f 15).k)then pathF K D c cs n ⟨(ndR cs (p.a*19)).b.toNat,(onB K p.er p.s (pt ((ndR cs (p.a*19)).f 15))).1,p.sure,(onB K p.er p.s (pt ((ndR cs (p.a*19)).f 15))).2⟩
     else bif decide (p.s.lo.k<((ndR cs (p.a*19)).f 15).k)then pathF K D c cs n ⟨(ndR cs (p.a*19)).b.toNat,(onB K p.er p.s (pt ((ndR cs (p.a*19)).f 15))).1,false,(onB K p.er p.s (pt ((ndR cs (p.a*19)).f 15))).2⟩
     else pathF K D c cs n ⟨(ndR cs (p.a*19)).a.toNat,(onN K p.er p.s (pt ((ndR cs (p.a*19)).f 15))).1,p.sure,(onN K p.er p.s (pt ((ndR cs (p.a*19)).f 15))).2⟩
    else bif decide ((ndR cs (p.a*19)).k=6)then
     bif decide (p.s.hi.k<(D c (pt ((ndR cs (p.a*19)).f 14))).1.lo.k)then(p,true)
     else bif decide (p.s.lo.k<(D c (pt ((ndR cs (p.a*19)).f 14))).1.hi.k)then(⟨p.a,p.s,false,p.er⟩,true)
     else pathF K D c cs n ⟨(ndR cs (p.a*19)).a.toNat,(onN K p.er p.s (D c (pt ((ndR cs (p.a*19)).f 14))).1).1,p.sure,(onN K p.er p.s (D c (pt ((ndR cs (p.a*19)).f 14))).1).2⟩
    else(p,false)
   else(p,false)
end Bu
namespace Go.Proofs.YtejcekikbnlllaaGreat
open Go.RowKit Bu Rx
def paB(D:I->I->I×Int)(dO:I->I->Obs)(c:I)(cs:List SV)(len:Nat):Bool:=
 (List.range len).all fun i=>bif decide ((ndR cs (i*19)).k=6)then Bu.obsB (dO c (pt ((ndR cs (i*19)).f 14)))&&decide ((D c (pt ((ndR cs (i*19)).f 14))).2=0)else true
theorem paB_at{D:I->I->I×Int}{dO:I->I->Obs}{c:I}{cs:List SV}{len i:Nat}(h:paB D dO c cs len=true)(hi:i<len)(h6:(ndR cs (i*19)).k=6):ObsOk (dO c (pt ((ndR cs (i*19)).f 14)))/\(D c (pt ((ndR cs (i*19)).f 14))).2=0:=by have h1:=List.all_eq_true.1 h i (List.mem_range.2 hi);rw[dT h6,cT,aTz,decide_eq_true_eq]at h1;exact⟨Bu.obsB_ok h1.1,h1.2⟩
section
variable {W:Npa} (hO:OracleOk prog (OPa W)) {e:TypeId} {cells cs:List SV} {c:I} {off len cap:Nat} {B:Bs} (hB1:B.M.length=1) (K:OkPg cs len) (hca:CellsAt cells off cs) (hB:paB W.D W.dO c cs len=true)
noncomputable abbrev paP(e:TypeId)(cells:List SV)(off len cap:Nat)(c:I)(p:Pst)(g:Bool)(x:Nat->SV):St:=paS e cells off len cap c (p.a:Int) p.er p.s p.sure (.b g) x none
include hO hB1
theorem pa_step{a er:Int}{s:I}{sure:Bool}{x:Nat->SV}{d:List Bool}{ex:Ex}{A E:Int}{s':I}{u' g':Bool}(hL:Lands prog EG (OPa W) 60 paBd (paS e cells off len cap c a er s sure (.b false) x (some d)) ex)(ho:ObsOk (paR W e cells off len cap c a er s sure x d).ob)
  (hM:selM (paR W e cells off len cap c a er s sure x d).M [0,1,2,3,4]=some (paM e cells c A E s' u')) (hT:∀(v:Nat->Value)(M':List Blk),∃y,((paR W e cells off len cap c a er s sure x d).sel [0,1,2,3,4] M' v).T=paT off len cap (.b g') y) :
  RunsB prog B paBd (paS e cells off len cap c a er s sure (.b false) x none) ex (fun t=>∃y,t=paS e cells off len cap c A E s' u' (.b g') y none):=by
 have hk:∀n,n<B.M.length->([0,1,2,3,4]:List Nat)[n]? =some n:=fun n hn=>by
  rw[hB1]at hn;have:n=0:=by omega
  subst this;rfl
 refine RunsB.re (d:=some d) (o:=[]) (RunsB.sel (RunsP.bs (Lands.runs goodG hO hL ho)) rfl hM hk fun v=> ?_);obtain⟨y,hy⟩:=hT v (paM e cells c A E s' u');exact⟨_,⟨y,rfl⟩,same_eq hy.symm rfl⟩
include K hca hB
set_option maxRecDepth 20000 in
theorem pa_loop{R:Pst×Bool}(n:Nat)(p:Pst)(x:Nat->SV)(hn:p.a<n)(hl:p.a<len)(hR:pathF W.K W.D c cs n p=R) :
  RunsB prog B (.block 1 (.loop paBd)) (paP e cells off len cap c p false x) .normal (fun t=>R.1.a<len/\∃y,t=paP e cells off len cap c R.1 R.2 y):=by
 refine loop_outB (fun q:Nat×Pst×(Nat->SV)=>paP e cells off len cap c q.2.1 false q.2.2) (fun q=>q.1) (fun q=>q.2.1.a<q.1/\q.2.1.a<len/\pathF W.K W.D c cs q.1 q.2.1=R) ?_ (n,p,x) ⟨hn,hl,hR⟩;rintro⟨n,p,x⟩ ⟨h1,h2,h3⟩;simp only at h1 h2 h3;obtain⟨n,rfl⟩:∃k,n=k+1:=⟨n-1,by omega⟩;obtain⟨hck,hnr⟩:=K.at hca h2;have hnd:=K.nd p.a h2;have hcb:=fun h6=>paB_at hB h2 h6;have hnd0:nd0 cells off (p.a:Int)=ndR cs (p.a*19):=by unfold nd0;rw[tN];exact hnr
 have hH:∀{er:Int},er=0->ObsOk (paHd cells off len (p.a:Int) er):=fun he=>by unfold paHd;rw[tN];exact ob_c hck (ob_c (ix_of (by omega) (by omega)) (ob_c (beq_t he) ob_n))
 unfold pathF at h3;obtain⟨a,s,sure,er⟩:=p;simp only at h1 h2 h3 hck hnr hnd hcb hnd0 hH ⊢;have fin:∀{A E:Int}{s':I}{u':Bool}(a':Nat),(a':Int)=A->a'<a->pathF W.K W.D c cs n ⟨a',s',u',E⟩=R->∀t:St,(∃y,t=paS e cells off len cap c A E s' u' (.b false) y none)->∃q:Nat×Pst×(Nat->SV),(q.2.1.a<q.1/\q.2.1.a<len/\pathF W.K W.D c cs q.1 q.2.1=R)/\q.1<n+1/\t=paP e cells off len cap c q.2.1 false q.2.2:=by intro A E s' u' a' hA ha hp t ⟨y,hy⟩;subst hA;exact⟨(n,⟨a',s',u',E⟩,y),⟨by show a'<n;omega,by show a'<len;omega,hp⟩,Nat.lt_succ_self n,hy⟩
 by_cases he:er=0
 ·rw[dT he,cT]at h3;generalize hgn:ndR cs (a*19)=nd at h3 hnd hcb hnd0;by_cases h5:nd.k=5
  ·obtain⟨⟨a0,a1⟩,b0,b1⟩:=okNd_mix hnd h5;rw[dT h5,cT]at h3;refine .inr ?_;by_cases g1:s.hi.k<(nd.f 15).k
   ·rw[dT g1,cT]at h3;refine(pa_step hO hB1 (paL_mb W e cells off len cap c a er s sure x) ?_ (paM_mb W e cells off len cap c a er s sure x) (paT_mb W e cells off len cap c a er s sure x)).mono (fin nd.b.toNat ?_ ?_ ?_)
    ·rw[paO_mb];simp only[pw,hnd0];exact ob_c (dT g1) (ob_c (beq_t h5) (hH he))
    ·rw[hnd0];exact Int.toNat_of_nonneg b0
    ·omega
    ·simp only[pw,hnd0];exact h3
   ·rw[dF g1,cF]at h3;by_cases g2:s.lo.k<(nd.f 15).k
    ·rw[dT g2,cT]at h3;refine(pa_step hO hB1 (paL_mu W e cells off len cap c a er s sure x) ?_ (paM_mu W e cells off len cap c a er s sure x) (paT_mu W e cells off len cap c a er s sure x)).mono (fin nd.b.toNat ?_ ?_ ?_)
     ·rw[paO_mu];simp only[pw,hnd0];exact ob_c (dT g2) (ob_c (dF g1) (ob_c (beq_t h5) (hH he)))
     ·rw[hnd0];exact Int.toNat_of_nonneg b0
     ·omega
     ·simp only[pw,hnd0];exact h3
    ·rw[dF g2,cF]at h3;refine(pa_step hO hB1 (paL_mn W e cells off len cap c a er s sure x) ?_ (paM_mn W e cells off len cap c a er s sure x) (paT_mn W e cells off len cap c a er s sure x)).mono (fin nd.a.toNat ?_ ?_ ?_)
     ·rw[paO_mn];simp only[pw,hnd0];exact ob_c (dF g2) (ob_c (dF g1) (ob_c (beq_t h5) (hH he)))
     ·rw[hnd0];exact Int.toNat_of_nonneg a0
     ·omega
     ·simp only[pw,hnd0];exact h3
  ·rw[dF h5,cF]at h3;by_cases h6:nd.k=6
   ·obtain⟨a0,a1⟩:=okNd_coat hnd h6;obtain⟨k1,k2⟩:=hcb h6;rw[dT h6,cT]at h3;have hC:ObsOk (((W.D c (pt (nd.f 14))).2 != 0,false)::(W.dO c (pt (nd.f 14))++((nd.k==6,true)::(nd.k==5,false)::paHd cells off len a er))):=ob_c (ne_0 k2) (ob_a k1 (ob_c (beq_t h6) (ob_c (beq_f h5) (hH he))));by_cases g1:s.hi.k<(W.D c (pt (nd.f 14))).1.lo.k
    ·rw[dT g1,cT]at h3;refine .inl ((pa_step hO hB1 (paL_cb W e cells off len cap c a er s sure x) ?_ (paM_cb W e cells off len cap c a er s sure x) (paT_cb W e cells off len cap c a er s sure x)).mono fun t ⟨y,hy⟩=> ?_)
     ·rw[paO_cb];simp only[pO,pI,hnd0];exact ob_c (dT g1) hC
     ·subst h3;exact⟨h2,y,hy⟩
    ·rw[dF g1,cF]at h3;by_cases g2:s.lo.k<(W.D c (pt (nd.f 14))).1.hi.k
     ·rw[dT g2,cT]at h3;refine .inl ((pa_step hO hB1 (paL_cu W e cells off len cap c a er s sure x) ?_ (paM_cu W e cells off len cap c a er s sure x) (paT_cu W e cells off len cap c a er s sure x)).mono fun t ⟨y,hy⟩=> ?_)
      ·rw[paO_cu];simp only[pO,pI,hnd0];exact ob_c (dT g2) (ob_c (dF g1) hC)
      ·subst h3;exact⟨h2,y,hy⟩
     ·rw[dF g2,cF]at h3;refine .inr ((pa_step hO hB1 (paL_cn W e cells off len cap c a er s sure x) ?_ (paM_cn W e cells off len cap c a er s sure x) (paT_cn W e cells off len cap c a er s sure x)).mono (fin nd.a.toNat ?_ ?_ ?_))
      ·rw[paO_cn];simp only[pO,pI,hnd0];exact ob_c (dF g2) (ob_c (dF g1) hC)
      ·rw[hnd0];exact Int.toNat_of_nonneg a0
      ·omega
      ·simp only[pO,pI,hnd0];exact h3
   ·rw[dF h6,cF]at h3;refine .inl ((pa_step hO hB1 (paL_lf W e cells off len cap c a er s sure x) ?_ (paM_lf W e cells off len cap c a er s sure x) (paT_lf W e cells off len cap c a er s sure x)).mono fun t ⟨y,hy⟩=> ?_)
    ·rw[paO_lf];simp only[hnd0];exact ob_c (beq_f h6) (ob_c (beq_f h5) (hH he))
    ·subst h3;exact⟨h2,y,hy⟩
 ·rw[dF he,cF]at h3;refine .inl ((pa_step hO hB1 (paL_er W e cells off len cap c a er s sure x) ?_ (paM_er W e cells off len cap c a er s sure x) (paT_er W e cells off len cap c a er s sure x)).mono fun t ⟨y,hy⟩=> ?_)
  ·rw[paO_er];exact ob_c (beq_f he) ob_n
  ·subst h3;exact⟨h2,y,hy⟩
end
section
variable (W:Npa) (e:TypeId) (cells:List SV) (off len cap:Nat) (c:I) (u:Int) (a er:Int) (s:I) (sure gl:Bool) (x:Nat->SV)
noncomputable abbrev pa0:St:=aft prog EG (OPa W) 60 (seqL paC) (paE e cells off len cap c u (some [true,false,false]))
noncomputable abbrev pa4:St:=aftN prog EG (OPa W) 60 4 paIn (pa0 W e cells off len cap c u)
theorem paL0:Lands prog EG (OPa W) 60 (seqL paC) (paE e cells off len cap c u (some [true,false,false])) .normal:=by unfold Lands;kernel_rfl
theorem paOb0:(pa0 W e cells off len cap c u).ob=[]:=by kernel_rfl
theorem paL4:LandsN prog EG (OPa W) 60 4 paIn (pa0 W e cells off len cap c u):=by unfold LandsN;kernel_rfl
def paEO(W:Npa)(cells:List SV)(off len:Nat)(c:I)(u:Int):Obs:=[(W.u u,true),(decide (one64.k<c.hi.k),false),(decide (c.lo.k<z64.k),false),(rt c,true),(W.o ((cells.drop off).take (len*19)) len,true)]
theorem paO4:(pa4 W e cells off len cap c u).ob=paEO W cells off len c u:=by kernel_rfl
def paM0(e:TypeId)(cells:List SV)(c:I)(a:Int)(s:I)(q:I×Int):List Blk:=[⟨e,cells,.num⟩,⟨33,[.fl c.lo,.fl c.hi],.ex⟩,⟨72,[.si .i64 q.2],.ex⟩,⟨133,[.p 2 0,.si .i64 a,.fl s.lo,.fl s.hi,.b true],.ex⟩,⟨33,[.fl q.1.lo,.fl q.1.hi],.ex⟩]
theorem paM4:selM (pa4 W e cells off len cap c u).M [0,1,2,3,4]=some (paM0 e cells c (IntKind.i64.wrap ((len:Int)-1)) (W.uo u) (W.K.num 0 one64)):=by kernel_rfl
noncomputable def pa4X(v:Nat->Value):Nat->SV:=fun j=>((pa4 W e cells off len cap c u).sel [0,1,2,3,4] [] v).T.getD j .np
theorem paT4(v:Nat->Value)(M':List Blk):((pa4 W e cells off len cap c u).sel [0,1,2,3,4] M' v).T=paT off len cap (.b false) (pa4X W e cells off len cap c u v):=by kernel_rfl
theorem paLz:Lands prog EG (OPa W) 60 paTl (paS e cells off len cap c a er s sure (.b gl) x (some [true])) .ret:=by unfold Lands;kernel_rfl
theorem paOz:(aft prog EG (OPa W) 60 paTl (paS e cells off len cap c a er s sure (.b gl) x (some [true]))).ob=[(er != 0,true)]:=by kernel_rfl
theorem paRz:resultS prog Tryz.f20 (aft prog EG (OPa W) 60 paTl (paS e cells off len cap c a er s sure (.b gl) x (some [true])))=some (.tup [.i .i64 0,.b false,.b false,.si .i64 er]):=by kernel_rfl
theorem paMz:(aft prog EG (OPa W) 60 paTl (paS e cells off len cap c a er s sure (.b gl) x (some [true]))).M=paM e cells c a er s sure:=by kernel_rfl
theorem paLy:Lands prog EG (OPa W) 60 paTl (paS e cells off len cap c a er s sure (.b gl) x (some [false])) .ret:=by unfold Lands;kernel_rfl
theorem paOy:(aft prog EG (OPa W) 60 paTl (paS e cells off len cap c a er s sure (.b gl) x (some [false]))).ob=[(er != 0,false)]:=by kernel_rfl
theorem paRy:resultS prog Tryz.f20 (aft prog EG (OPa W) 60 paTl (paS e cells off len cap c a er s sure (.b gl) x (some [false])))=some (.tup [.si .i64 a,.b gl,.b sure,.i .i64 0]):=by kernel_rfl
theorem paMy:(aft prog EG (OPa W) 60 paTl (paS e cells off len cap c a er s sure (.b gl) x (some [false]))).M=paM e cells c a er s sure:=by kernel_rfl
end
structure PaR where
 a:Int
 g:Bool
 s:Bool
 e:Int
def paRes(r:Pst×Bool):PaR:=bif decide (r.1.er=0)then⟨r.1.a,r.2,r.1.sure,0⟩else⟨0,false,false,r.1.er⟩
def paW(W:Npa)(c:I)(u:Int)(cs:List SV)(len:Nat):Pst×Bool:=pathF W.K W.D c cs len ⟨len-1,W.uo u,true,0⟩
def paSv(r:Pst×Bool):SV:=bif decide (r.1.er=0)then .tup [.si .i64 r.1.a,.b r.2,.b r.1.sure,.i .i64 0]else .tup [.i .i64 0,.b false,.b false,.si .i64 r.1.er]
def paV(r:PaR):Value:= .tuple #[.int .i64 r.a,.bool r.g,.bool r.s,.int .i64 r.e]
theorem paSv_plain(r:Pst×Bool):plain (paSv r)=some (paV (paRes r)):=by unfold paSv paRes;cases decide (r.1.er=0)<;>rfl
section
variable {W:Npa} (hO:OracleOk prog (OPa W)) (hnum:W.K.num 0 one64=(pt one64,0)) {e:TypeId} {cells cs:List SV} {c:I} {u:Int} {off len cap:Nat} {B:Bs} (hB1:B.M.length=1) (K:OkPg cs len) (hca:CellsAt cells off cs) (hB:paB W.D W.dO c cs len=true)
include hO hB1 K hca hB hnum
set_option maxRecDepth 20000 in
theorem pa_all(ho:ObsOk (paEO W cells off len c u)):RunsB prog B paC (paE e cells off len cap c u none) .ret
  (fun t=>resultS prog Tryz.f20 t=some (paSv (paW W c u cs len))/\∃rest,t.M=⟨e,cells,.num⟩::rest):=by
 have hlo:=K.lo;have hhi:=K.hi;have hw:IntKind.i64.wrap ((len:Int)-1)=((len-1:Nat):Int):=by rw[IntKind.wrap_i64];omega
 refine RunsB.re (d:=some [true,false,false]) (o:=[]) ?_;rw[paC_cut];refine LandsB.seq goodG hO (paL0 W e cells off len cap c u) (by have h0:=paOb0 W e cells off len cap c u;have K0:ObsOk []:=ob_n;exact h0▸K0) ?_;refine RunsB.scope ?_;refine(paL4 W e cells off len cap c u).ok goodG hO (by rw[paO4];exact ho) ?_;have hM:=paM4 W e cells off len cap c u;rw[hnum,hw]at hM;refine RunsB.keep (ids:=[0,1,2,3,4]) rfl hM (fun n hn=>by
  rw[hB1]at hn;have:n=0:=by omega
  subst this;rfl) fun v=> ?_
 have hs:SameSt (paP e cells off len cap c ⟨len-1,W.uo u,true,0⟩ false (pa4X W e cells off len cap c u v)) ((pa4 W e cells off len cap c u).sel [0,1,2,3,4] (paM0 e cells c ((len-1:Nat):Int) (W.uo u) (pt one64,0)) v):=same_eq (paT4 W e cells off len cap c u v _).symm rfl;refine RunsB.retell hs ?_;rw[paIn_cut];refine RunsB.seq (pa_loop hO hB1 K hca hB len ⟨len-1,W.uo u,true,0⟩ (pa4X W e cells off len cap c u v) (by show len-1<len;omega) (by show len-1<len;omega) rfl) fun t ⟨_,y,ht⟩=> ?_;subst ht;show RunsB prog B paTl (paP e cells off len cap c (paW W c u cs len).1 (paW W c u cs len).2 y) .ret _;generalize paW W c u cs len=r;unfold paSv;by_cases he:r.1.er=0
 ·rw[dT he,cT];refine RunsB.re (d:=some [false]) (o:=[]) (RunsP.bs (Lands.all goodG hO (paLy W e cells off len cap c r.1.a r.1.er r.1.s r.1.sure r.2 y) ?_ ⟨paRy W e cells off len cap c r.1.a r.1.er r.1.s r.1.sure r.2 y,?_⟩))
  ·have h0:=paOy W e cells off len cap c r.1.a r.1.er r.1.s r.1.sure r.2 y;have K0:ObsOk [(r.1.er != 0,false)]:=ob_c (ne_0 he) ob_n;exact h0▸K0
  ·exact⟨_,paMy W e cells off len cap c r.1.a r.1.er r.1.s r.1.sure r.2 y⟩
 ·rw[dF he,cF];refine RunsB.re (d:=some [true]) (o:=[]) (RunsP.bs (Lands.all goodG hO (paLz W e cells off len cap c r.1.a r.1.er r.1.s r.1.sure r.2 y) ?_ ⟨paRz W e cells off len cap c r.1.a r.1.er r.1.s r.1.sure r.2 y,?_⟩))
  ·have h0:=paOz W e cells off len cap c r.1.a r.1.er r.1.s r.1.sure r.2 y;have K0:ObsOk [(r.1.er != 0,true)]:=ob_c (by simpa using he) ob_n;exact h0▸K0
  ·exact⟨_,paMz W e cells off len cap c r.1.a r.1.er r.1.s r.1.sure r.2 y⟩
end
structure Npt where
 o:List SV->Nat->Bool
 b:I->List SV->Nat->Bool
 u:Int->Bool
 g:I->Int->List SV->Nat->PaR
def cosO(c:I):Obs:=[(decide (one64.k<c.hi.k),false),(decide (c.lo.k<z64.k),false),(rt c,true)]
def kPt_(T:Npt):RdF:=fun cs len l ds=>match l with
 | [.agg [.fl lo, .fl hi], y] => match intS y with
   |some (.u64,u)=>(takeB ds (T.g ⟨lo,hi⟩ u cs len).g).map fun r=>(.tup [.si .i64 (T.g ⟨lo,hi⟩ u cs len).a,.b r.1,.b (T.g ⟨lo,hi⟩ u cs len).s,.si .i64 (T.g ⟨lo,hi⟩ u cs len).e],r.2.1,((decide (cs.length=len*19),true)::(T.o cs len,true)::(T.b ⟨lo,hi⟩ cs len,true)::(T.u u,true)::cosO ⟨lo,hi⟩)++r.2.2)
   |_=>none
 |_=>none
def nPt(W:Npa):Npt:=⟨okPg,paB W.D W.dO,W.u,fun c u cs len=>paRes (paW W c u cs len)⟩
theorem ptRd{W:Npa}(hO:OracleOk prog (OPa W))(hnum:W.K.num 0 one64=(pt one64,0))(hW:W.o=okPg):RdOk prog 20 (kPt_ (nPt W)):=by
 intro cs len l ds x ds' ob h ho;unfold kPt_ at h;split at h
 ·rename_i lo hi y;split at h
  ·rename_i u hu;simp only[mIz,pIz]at h;obtain⟨⟨r,dd,oo⟩,h1,rfl,rfl,rfl⟩:=h;have hd:=takeB_ok h1 ho.right;subst hd;have h2:=ho.left;have hl:cs.length=len*19:=oTz (h2 _ (List.mem_cons_self ..));have hok:okPg cs len=true:=h2 _ (List.mem_cons_of_mem _ (List.mem_cons_self ..));have K:=okPg_ok hok;have hB:paB W.D W.dO ⟨lo,hi⟩ cs len=true:=h2 _ (List.mem_cons_of_mem _ (List.mem_cons_of_mem _ (List.mem_cons_self ..)));have hU:W.u u=true:=h2 _ (List.mem_cons_of_mem _ (List.mem_cons_of_mem _ (List.mem_cons_of_mem _ (List.mem_cons_self ..))));have hC:ObsOk (cosO ⟨lo,hi⟩):=fun p hp=>h2 p (List.mem_cons_of_mem _ (List.mem_cons_of_mem _ (List.mem_cons_of_mem _ (List.mem_cons_of_mem _ hp))));obtain⟨vc,hc⟩:=K.pl;have hy:=intS_plain hu;refine⟨vc,[.agg #[.float .f64 lo.b,.float .f64 hi.b],.int .u64 u],paV (paRes (paW W ⟨lo,hi⟩ u cs len)),hc,?_,rfl,fun w q off cap hw=> ?_⟩
   ·show plains [.agg [.fl lo,.fl hi],y]=_;unfold plains plains;rw[hy];rfl
   ·refine rd_of_runsB (d:=none) Tryz.func20 paBody hc (l:=[.agg [.fl lo,.fl hi],.si .u64 u]) rfl (paSv_plain (paW W ⟨lo,hi⟩ u cs len)) (fun e cells off cap hca hid B hBM=> ?_) w q off cap hw;exact pa_all (c:=⟨lo,hi⟩) hO hnum (by rw[hBM];rfl) K hca hB (ob_c hU (by
     have h3:W.o ((cells.drop off).take (len*19)) len=true:=by rw[hW,<-hl,at_take hca];exact hok
     intro p hp;simp only[List.mem_cons,List.not_mem_nil,or_false]at hp;rcases hp with rfl|rfl|rfl|rfl
     ·exact hC _ (List.mem_cons_self ..)
     ·exact hC _ (List.mem_cons_of_mem _ (List.mem_cons_self ..))
     ·exact hC _ (List.mem_cons_of_mem _ (List.mem_cons_of_mem _ (List.mem_cons_self ..)))
     ·exact h3))
  ·cases h
 ·cases h
structure Ndr where
 K:Kk
 T:Npt
 un:F->F->F->V3
 ub:F->F->F->Bool
 cd:Int->Int->I×I×I
 vd:V3->I->Int->Int->V3×Int
 vo:V3->I->Int->Int->Obs
 re:V3->V3->V3×Int
 mp:F->F->F->F->F->F->Bool
 md:F->F->F->F->F->F->F×F×F
def ODw(N:Ndr):OracleF:=lookO (OCL N.K++ [(50,kRd 19 (kRgt N.T.o)),(17,plainO (kUn N.un N.ub)),(20,kRd 19 (kPt_ N.T)),(181,plainO (kDraw N.cd N.T.u)),(182,plainO (kVd N.vd N.vo)),(183,plainO (kRe N.re)),(110,plainO (kSt N.ub)),(112,plainO (kMid N.mp N.md))])
section
variable (N:Ndr) (e:TypeId) (cells:List SV) (off len cap:Nat) (x y z:F) (u0 u1 u2:Int)
def dwArgs(off len cap:Nat)(x y z:F)(u0 u1 u2:Int):List SV:=[.ssl 0 off len cap,.agg [.fl x,.fl y,.fl z],.agg [.si .u64 u0,.si .u64 u1,.si .u64 u2]]
noncomputable abbrev dwRun(N:Ndr)(e:TypeId)(cells:List SV)(off len cap:Nat)(x y z:F)(u0 u1 u2:Int)(d:List Bool):Option (SV×List Blk×Dec×Obs):=((run prog EG (ODw N) 80).1 47 (dwArgs off len cap x y z u0 u1 u2) [⟨e,cells,.num⟩] (some d)).map (fun q=>(q.1,q.2.1.take 1,q.2.2))
def dwS(k:Int)(p:F×F×F)(b:V3)(a:SV)(s:Bool)(e:SV):SV:= .tup [.agg [.i .u8 k,.fl p.1,.fl p.2.1,.fl p.2.2,.fl b.x.lo,.fl b.x.hi,.fl b.y.lo,.fl b.y.hi,.fl b.z.lo,.fl b.z.hi,a,.b s],e]
def z3:F×F×F:=(toF 0,toF 0,toF 0)
def zV:V3:=⟨⟨toF 0,toF 0⟩,⟨toF 0,toF 0⟩,⟨toF 0,toF 0⟩⟩
def dwP(N:Ndr)(cs:List SV)(len:Nat)(x y z:F)(u0:Int):PaR:=N.T.g (N.un x y z).z u0 cs len
def dwNd(N:Ndr)(cells:List SV)(off len:Nat)(x y z:F)(u0:Int):Nd:=ndR cells (off+(dwP N (cutC cells off len) len x y z u0).a.toNat*19)
def dwMir(N:Ndr)(x y z:F):V3:=⟨(N.K.neg 0 (N.un x y z).x).1,(N.K.neg (N.K.neg 0 (N.un x y z).x).2 (N.un x y z).y).1,(N.un x y z).z⟩
def dwMid(N:Ndr)(b:V3):F×F×F:=N.md b.x.lo b.x.hi b.y.lo b.y.hi b.z.lo b.z.hi
def dwMp(N:Ndr)(b:V3):Bool:=N.mp b.x.lo b.x.hi b.y.lo b.y.hi b.z.lo b.z.hi
def dwCos(N:Ndr)(u1 u2:Int):V3:=⟨(N.cd u1 u2).1,(N.cd u1 u2).2.1,(N.cd u1 u2).2.2⟩
def dwN(N:Ndr)(v:V3)(al:F)(u1 u2:Int):V3×Int:=N.vd v (pt al) u1 u2
def dwO0(N:Ndr)(cs:List SV)(len:Nat)(x y z:F)(b:Bool):Obs:=[(N.ub x y z,b),(N.T.o cs len,true)]
def dwO1(N:Ndr)(cs:List SV)(len:Nat)(x y z:F):Obs:=(decide (z.k<=z64.k),false)::dwO0 N cs len x y z true
def dwPO(N:Ndr)(cs:List SV)(len:Nat)(x y z:F)(u0:Int)(g:Bool):Obs:=((decide (cs.length=len*19),true)::(N.T.o cs len,true)::(N.T.b (N.un x y z).z cs len,true)::(N.T.u u0,true)::cosO (N.un x y z).z)++ [((dwP N cs len x y z u0).g,g)]
def dwO2(N:Ndr)(cs:List SV)(len:Nat)(x y z:F)(u0:Int)(g b:Bool):Obs:=((dwP N cs len x y z u0).e != 0,b)::(dwPO N cs len x y z u0 g++dwO1 N cs len x y z)
def dwO3(N:Ndr)(cells:List SV)(off len:Nat)(x y z:F)(u0:Int):Obs:=(ckAll cells (off+(dwP N (cutC cells off len) len x y z u0).a.toNat*19) ndCK,true)::(ixB (dwP N (cutC cells off len) len x y z u0).a len,true)::dwO2 N (cutC cells off len) len x y z u0 false false
def dwEnd(N:Ndr)(b:V3)(c d:Bool)(t:Obs):Obs:=(decide ((dwMid N b).2.2.k<=z64.k),d)::(N.ub (dwMid N b).1 (dwMid N b).2.1 (dwMid N b).2.2,c)::(dwMp N b,true)::t
theorem dwR_a:dwRun N e cells off len cap x y z u0 u1 u2 [false]=some (dwS 0 z3 zV (.i .i64 0) false (.i .i64 50),[⟨e,cells,.num⟩],some [],dwO0 N (cutC cells off len) len x y z false):=by kernel_rfl
theorem dwR_b:dwRun N e cells off len cap x y z u0 u1 u2 [true,true]=some (dwS 0 z3 zV (.i .i64 0) false (.i .i64 0),[⟨e,cells,.num⟩],some [],(decide (z.k<=z64.k),true)::dwO0 N (cutC cells off len) len x y z true):=by kernel_rfl
theorem dwR_c:dwRun N e cells off len cap x y z u0 u1 u2 [true,false,false,true]=some (dwS 0 z3 zV (.i .i64 0) false (.si .i64 (dwP N (cutC cells off len) len x y z u0).e),[⟨e,cells,.num⟩],some [],dwO2 N (cutC cells off len) len x y z u0 false true):=by kernel_rfl
theorem dwR_d:dwRun N e cells off len cap x y z u0 u1 u2 [true,false,true,false]=some (dwS 1 (x.neg,y.neg,z) (dwMir N x y z) (.si .i64 (dwP N (cutC cells off len) len x y z u0).a) (dwP N (cutC cells off len) len x y z u0).s (.i .i64 0),[⟨e,cells,.num⟩],some [],(N.ub x y z,true)::dwO2 N (cutC cells off len) len x y z u0 true false):=by kernel_rfl
theorem dwR_v:dwRun N e cells off len cap x y z u0 u1 u2 [true,false,false,false,false,false,true,true,true]=some (dwS 0 z3 zV (.i .i64 0) false (.si .i64 (dwN N (N.un x y z) ((dwNd N cells off len x y z u0).f 13) u1 u2).2),[⟨e,cells,.num⟩],some [],((dwN N (N.un x y z) ((dwNd N cells off len x y z u0).f 13) u1 u2).2 != 0,true)::((dwN N (N.un x y z) ((dwNd N cells off len x y z u0).f 13) u1 u2).2 != 0,true)::(((N.vo (N.un x y z) (pt ((dwNd N cells off len x y z u0).f 13)) u1 u2++ [(decide (((dwNd N cells off len x y z u0).f 13).k<=one64.k),true)])++ [((dwNd N cells off len x y z u0).k==2,false),((dwNd N cells off len x y z u0).k==1,false)])++dwO3 N cells off len x y z u0)):=by kernel_rfl
theorem dwR_r:dwRun N e cells off len cap x y z u0 u1 u2 [true,false,false,false,false,false,true,false,true]=some (dwS 0 z3 zV (.i .i64 0) false (.si .i64 (N.re (N.un x y z) (dwN N (N.un x y z) ((dwNd N cells off len x y z u0).f 13) u1 u2).1).2),[⟨e,cells,.num⟩],some [],((N.re (N.un x y z) (dwN N (N.un x y z) ((dwNd N cells off len x y z u0).f 13) u1 u2).1).2 != 0,true)::(reO (N.un x y z) (dwN N (N.un x y z) ((dwNd N cells off len x y z u0).f 13) u1 u2).1++(((dwN N (N.un x y z) ((dwNd N cells off len x y z u0).f 13) u1 u2).2 != 0,false)::(((N.vo (N.un x y z) (pt ((dwNd N cells off len x y z u0).f 13)) u1 u2++ [(decide (((dwNd N cells off len x y z u0).f 13).k<=one64.k),true)])++ [((dwNd N cells off len x y z u0).k==2,false),((dwNd N cells off len x y z u0).k==1,false)])++dwO3 N cells off len x y z u0)))):=by kernel_rfl
theorem dwR_ett:dwRun N e cells off len cap x y z u0 u1 u2 [true,false,false,false,true,true,true,true]=some (dwS 0 z3 zV (.si .i64 (dwP N (cutC cells off len) len x y z u0).a) (dwP N (cutC cells off len) len x y z u0).s (.i .i64 0),[⟨e,cells,.num⟩],some [],dwEnd N (dwCos N u1 u2) true true ((N.T.u u1,true)::(N.T.u u2,true)::((dwNd N cells off len x y z u0).k==1,true)::dwO3 N cells off len x y z u0)):=by kernel_rfl
theorem dwR_etf:dwRun N e cells off len cap x y z u0 u1 u2 [true,false,false,false,true,true,true,false]=some (dwS 2 (dwMid N (dwCos N u1 u2)) (dwCos N u1 u2) (.si .i64 (dwP N (cutC cells off len) len x y z u0).a) (dwP N (cutC cells off len) len x y z u0).s (.i .i64 0),[⟨e,cells,.num⟩],some [],dwEnd N (dwCos N u1 u2) true false ((N.T.u u1,true)::(N.T.u u2,true)::((dwNd N cells off len x y z u0).k==1,true)::dwO3 N cells off len x y z u0)):=by kernel_rfl
theorem dwR_eft:dwRun N e cells off len cap x y z u0 u1 u2 [true,false,false,false,true,true,false,true]=some (dwS 0 z3 zV (.si .i64 (dwP N (cutC cells off len) len x y z u0).a) (dwP N (cutC cells off len) len x y z u0).s (.i .i64 0),[⟨e,cells,.num⟩],some [],dwEnd N (dwCos N u1 u2) false true ((N.T.u u1,true)::(N.T.u u2,true)::((dwNd N cells off len x y z u0).k==1,true)::dwO3 N cells off len x y z u0)):=by kernel_rfl
theorem dwR_eff:dwRun N e cells off len cap x y z u0 u1 u2 [true,false,false,false,true,true,false,false]=some (dwS 0 z3 zV (.si .i64 (dwP N (cutC cells off len) len x y z u0).a) (dwP N (cutC cells off len) len x y z u0).s (.i .i64 0),[⟨e,cells,.num⟩],some [],dwEnd N (dwCos N u1 u2) false false ((N.T.u u1,true)::(N.T.u u2,true)::((dwNd N cells off len x y z u0).k==1,true)::dwO3 N cells off len x y z u0)):=by kernel_rfl
theorem dwR_ftt:dwRun N e cells off len cap x y z u0 u1 u2 [true,false,false,false,false,true,true,true,true]=some (dwS 0 z3 zV (.si .i64 (dwP N (cutC cells off len) len x y z u0).a) (dwP N (cutC cells off len) len x y z u0).s (.i .i64 0),[⟨e,cells,.num⟩],some [],dwEnd N (dwCos N u1 u2) true true ((N.T.u u1,true)::(N.T.u u2,true)::((dwNd N cells off len x y z u0).k==2,true)::((dwNd N cells off len x y z u0).k==1,false)::dwO3 N cells off len x y z u0)):=by kernel_rfl
theorem dwR_ftf:dwRun N e cells off len cap x y z u0 u1 u2 [true,false,false,false,false,true,true,true,false]=some (dwS 2 (dwMid N (dwCos N u1 u2)) (dwCos N u1 u2) (.si .i64 (dwP N (cutC cells off len) len x y z u0).a) (dwP N (cutC cells off len) len x y z u0).s (.i .i64 0),[⟨e,cells,.num⟩],some [],dwEnd N (dwCos N u1 u2) true false ((N.T.u u1,true)::(N.T.u u2,true)::((dwNd N cells off len x y z u0).k==2,true)::((dwNd N cells off len x y z u0).k==1,false)::dwO3 N cells off len x y z u0)):=by kernel_rfl
theorem dwR_fft:dwRun N e cells off len cap x y z u0 u1 u2 [true,false,false,false,false,true,true,false,true]=some (dwS 0 z3 zV (.si .i64 (dwP N (cutC cells off len) len x y z u0).a) (dwP N (cutC cells off len) len x y z u0).s (.i .i64 0),[⟨e,cells,.num⟩],some [],dwEnd N (dwCos N u1 u2) false true ((N.T.u u1,true)::(N.T.u u2,true)::((dwNd N cells off len x y z u0).k==2,true)::((dwNd N cells off len x y z u0).k==1,false)::dwO3 N cells off len x y z u0)):=by kernel_rfl
theorem dwR_fff:dwRun N e cells off len cap x y z u0 u1 u2 [true,false,false,false,false,true,true,false,false]=some (dwS 0 z3 zV (.si .i64 (dwP N (cutC cells off len) len x y z u0).a) (dwP N (cutC cells off len) len x y z u0).s (.i .i64 0),[⟨e,cells,.num⟩],some [],dwEnd N (dwCos N u1 u2) false false ((N.T.u u1,true)::(N.T.u u2,true)::((dwNd N cells off len x y z u0).k==2,true)::((dwNd N cells off len x y z u0).k==1,false)::dwO3 N cells off len x y z u0)):=by kernel_rfl
theorem dwR_gtt:dwRun N e cells off len cap x y z u0 u1 u2 [true,false,false,false,false,false,true,false,false,true,true,true]=some (dwS 0 z3 zV (.si .i64 (dwP N (cutC cells off len) len x y z u0).a) (dwP N (cutC cells off len) len x y z u0).s (.i .i64 0),[⟨e,cells,.num⟩],some [],dwEnd N (N.re (N.un x y z) (dwN N (N.un x y z) ((dwNd N cells off len x y z u0).f 13) u1 u2).1).1 true true (((N.re (N.un x y z) (dwN N (N.un x y z) ((dwNd N cells off len x y z u0).f 13) u1 u2).1).2 != 0,false)::(reO (N.un x y z) (dwN N (N.un x y z) ((dwNd N cells off len x y z u0).f 13) u1 u2).1++(((dwN N (N.un x y z) ((dwNd N cells off len x y z u0).f 13) u1 u2).2 != 0,false)::(((N.vo (N.un x y z) (pt ((dwNd N cells off len x y z u0).f 13)) u1 u2++ [(decide (((dwNd N cells off len x y z u0).f 13).k<=one64.k),true)])++ [((dwNd N cells off len x y z u0).k==2,false),((dwNd N cells off len x y z u0).k==1,false)])++dwO3 N cells off len x y z u0))))):=by kernel_rfl
theorem dwR_gtf:dwRun N e cells off len cap x y z u0 u1 u2 [true,false,false,false,false,false,true,false,false,true,true,false]=some (dwS 2 (dwMid N (N.re (N.un x y z) (dwN N (N.un x y z) ((dwNd N cells off len x y z u0).f 13) u1 u2).1).1) (N.re (N.un x y z) (dwN N (N.un x y z) ((dwNd N cells off len x y z u0).f 13) u1 u2).1).1 (.si .i64 (dwP N (cutC cells off len) len x y z u0).a) (dwP N (cutC cells off len) len x y z u0).s (.i .i64 0),[⟨e,cells,.num⟩],some [],dwEnd N (N.re (N.un x y z) (dwN N (N.un x y z) ((dwNd N cells off len x y z u0).f 13) u1 u2).1).1 true false (((N.re (N.un x y z) (dwN N (N.un x y z) ((dwNd N cells off len x y z u0).f 13) u1 u2).1).2 != 0,false)::(reO (N.un x y z) (dwN N (N.un x y z) ((dwNd N cells off len x y z u0).f 13) u1 u2).1++(((dwN N (N.un x y z) ((dwNd N cells off len x y z u0).f 13) u1 u2).2 != 0,false)::(((N.vo (N.un x y z) (pt ((dwNd N cells off len x y z u0).f 13)) u1 u2++ [(decide (((dwNd N cells off len x y z u0).f 13).k<=one64.k),true)])++ [((dwNd N cells off len x y z u0).k==2,false),((dwNd N cells off len x y z u0).k==1,false)])++dwO3 N cells off len x y z u0))))):=by kernel_rfl
theorem dwR_gft:dwRun N e cells off len cap x y z u0 u1 u2 [true,false,false,false,false,false,true,false,false,true,false,true]=some (dwS 0 z3 zV (.si .i64 (dwP N (cutC cells off len) len x y z u0).a) (dwP N (cutC cells off len) len x y z u0).s (.i .i64 0),[⟨e,cells,.num⟩],some [],dwEnd N (N.re (N.un x y z) (dwN N (N.un x y z) ((dwNd N cells off len x y z u0).f 13) u1 u2).1).1 false true (((N.re (N.un x y z) (dwN N (N.un x y z) ((dwNd N cells off len x y z u0).f 13) u1 u2).1).2 != 0,false)::(reO (N.un x y z) (dwN N (N.un x y z) ((dwNd N cells off len x y z u0).f 13) u1 u2).1++(((dwN N (N.un x y z) ((dwNd N cells off len x y z u0).f 13) u1 u2).2 != 0,false)::(((N.vo (N.un x y z) (pt ((dwNd N cells off len x y z u0).f 13)) u1 u2++ [(decide (((dwNd N cells off len x y z u0).f 13).k<=one64.k),true)])++ [((dwNd N cells off len x y z u0).k==2,false),((dwNd N cells off len x y z u0).k==1,false)])++dwO3 N cells off len x y z u0))))):=by kernel_rfl
theorem dwR_gff:dwRun N e cells off len cap x y z u0 u1 u2 [true,false,false,false,false,false,true,false,false,true,false,false]=some (dwS 0 z3 zV (.si .i64 (dwP N (cutC cells off len) len x y z u0).a) (dwP N (cutC cells off len) len x y z u0).s (.i .i64 0),[⟨e,cells,.num⟩],some [],dwEnd N (N.re (N.un x y z) (dwN N (N.un x y z) ((dwNd N cells off len x y z u0).f 13) u1 u2).1).1 false false (((N.re (N.un x y z) (dwN N (N.un x y z) ((dwNd N cells off len x y z u0).f 13) u1 u2).1).2 != 0,false)::(reO (N.un x y z) (dwN N (N.un x y z) ((dwNd N cells off len x y z u0).f 13) u1 u2).1++(((dwN N (N.un x y z) ((dwNd N cells off len x y z u0).f 13) u1 u2).2 != 0,false)::(((N.vo (N.un x y z) (pt ((dwNd N cells off len x y z u0).f 13)) u1 u2++ [(decide (((dwNd N cells off len x y z u0).f 13).k<=one64.k),true)])++ [((dwNd N cells off len x y z u0).k==2,false),((dwNd N cells off len x y z u0).k==1,false)])++dwO3 N cells off len x y z u0))))):=by kernel_rfl
end
structure DwR where
 k:Int
 p:F×F×F
 b:V3
 a:Int
 s:Bool
 e:Int
def dwZ(e:Int):DwR:=⟨0,z3,zV,0,false,e⟩
def dwSv(r:DwR):SV:= .tup [.agg [.si .u8 r.k,.fl r.p.1,.fl r.p.2.1,.fl r.p.2.2,.fl r.b.x.lo,.fl r.b.x.hi,.fl r.b.y.lo,.fl r.b.y.hi,.fl r.b.z.lo,.fl r.b.z.hi,.si .i64 r.a,.b r.s],.si .i64 r.e]
def dwV(r:DwR):Value:= .tuple #[.agg #[.int .u8 r.k,.float .f64 r.p.1.b,.float .f64 r.p.2.1.b,.float .f64 r.p.2.2.b,.float .f64 r.b.x.lo.b,.float .f64 r.b.x.hi.b,.float .f64 r.b.y.lo.b,.float .f64 r.b.y.hi.b,.float .f64 r.b.z.lo.b,.float .f64 r.b.z.hi.b,.int .i64 r.a,.bool r.s],.int .i64 r.e]
def bxF(N:Ndr)(nd:Nd)(v:V3)(u1 u2:Int):V3×Int:=
 bif decide (nd.k=1)||decide (nd.k=2)then(dwCos N u1 u2,0)else bif decide ((dwN N v (nd.f 13) u1 u2).2=0)then N.re v (dwN N v (nd.f 13) u1 u2).1 else(V3.zero,(dwN N v (nd.f 13) u1 u2).2)
def bxO(N:Ndr)(nd:Nd)(v:V3)(u1 u2:Int):Obs:=
 bif decide (nd.k=1)||decide (nd.k=2)then[(N.T.u u1,true),(N.T.u u2,true)]else(N.vo v (pt (nd.f 13)) u1 u2++ [(decide ((nd.f 13).k<=one64.k),true)])++(bif decide ((dwN N v (nd.f 13) u1 u2).2=0)then reO v (dwN N v (nd.f 13) u1 u2).1 else[])
def dwLf(N:Ndr)(P:PaR)(b:V3):DwR:=bif N.ub (dwMid N b).1 (dwMid N b).2.1 (dwMid N b).2.2&& !decide ((dwMid N b).2.2.k<=z64.k)then⟨2,dwMid N b,b,P.a,P.s,0⟩else⟨0,z3,zV,P.a,P.s,0⟩
def dwF(N:Ndr)(cs:List SV)(len:Nat)(x y z:F)(u0 u1 u2:Int):DwR:=
 bif N.ub x y z then
  bif decide (z.k<=z64.k)then dwZ 0
  else bif decide ((dwP N cs len x y z u0).e=0)then
   bif (dwP N cs len x y z u0).g then⟨1,(x.neg,y.neg,z),dwMir N x y z,(dwP N cs len x y z u0).a,(dwP N cs len x y z u0).s,0⟩
   else bif decide ((bxF N (ndR cs ((dwP N cs len x y z u0).a.toNat*19)) (N.un x y z) u1 u2).2=0)then dwLf N (dwP N cs len x y z u0) (bxF N (ndR cs ((dwP N cs len x y z u0).a.toNat*19)) (N.un x y z) u1 u2).1 else dwZ (bxF N (ndR cs ((dwP N cs len x y z u0).a.toNat*19)) (N.un x y z) u1 u2).2
  else dwZ (dwP N cs len x y z u0).e
 else dwZ 50
def dwOb(N:Ndr)(cs:List SV)(len:Nat)(x y z:F)(u0 u1 u2:Int):Obs:=
 (decide (cs.length=len*19),true)::(N.T.o cs len,true)::
 (bif N.ub x y z then
  bif decide (z.k<=z64.k)then[]
  else(N.T.b (N.un x y z).z cs len,true)::(N.T.u u0,true)::(cosO (N.un x y z).z++
   (bif decide ((dwP N cs len x y z u0).e=0)then
    bif (dwP N cs len x y z u0).g then[]
    else(decide (0<=(dwP N cs len x y z u0).a/\(dwP N cs len x y z u0).a<len),true)::(bxO N (ndR cs ((dwP N cs len x y z u0).a.toNat*19)) (N.un x y z) u1 u2++
     (bif decide ((bxF N (ndR cs ((dwP N cs len x y z u0).a.toNat*19)) (N.un x y z) u1 u2).2=0)then[(dwMp N (bxF N (ndR cs ((dwP N cs len x y z u0).a.toNat*19)) (N.un x y z) u1 u2).1,true)]else[]))
   else[((dwP N cs len x y z u0).g,false)]))
 else[])
theorem ob_hd{c b:Bool}{o:Obs}(h:ObsOk ((c,b)::o)):c=b/\ObsOk o:=⟨h _ (List.mem_cons_self ..),fun p hp=>h p (List.mem_cons_of_mem _ hp)⟩
section
variable {N:Ndr} (hO:OracleOk prog (ODw N)) (hD:N.T.o=okPg) {cs:List SV} {len:Nat} {x y z:F} {u0 u1 u2:Int}
include hO hD
set_option maxRecDepth 20000 in
theorem dw_all(h:ObsOk (dwOb N cs len x y z u0 u1 u2)):∃vc,plains cs=some vc/\∀(w:World)(q off cap:Nat),RowAt w q off vc->Calls prog 47 (Value.slice (some ⟨q,off,none⟩) len cap:: [.agg #[.float .f64 x.b,.float .f64 y.b,.float .f64 z.b],.agg #[.int .u64 u0,.int .u64 u1,.int .u64 u2]]).toArray w fun e w'=>e= .returned (dwV (dwF N cs len x y z u0 u1 u2))/\Below w.heap.size w w':=by
 unfold dwOb at h;obtain⟨h1,h⟩:=ob_hd h;obtain⟨h2,h⟩:=ob_hd h;have hl:cs.length=len*19:=oTz h1;have K:=okPg_ok (hD▸h2);obtain⟨vc,hc⟩:=K.pl;refine⟨vc,hc,fun w q off cap hw=> ?_⟩;have fin:∀{d:List Bool}{res:SV}(hx:plain res=some (dwV (dwF N cs len x y z u0 u1 u2)))(hr:∀(e:TypeId)(cells:List SV)(off cap:Nat),CellsAt cells off cs->∃ob,dwRun N e cells off len cap x y z u0 u1 u2 d=some (res,[⟨e,cells,.num⟩],some [],ob)/\ObsOk ob),Calls prog 47 (Value.slice (some ⟨q,off,none⟩) len cap:: [.agg #[.float .f64 x.b,.float .f64 y.b,.float .f64 z.b],.agg #[.int .u64 u0,.int .u64 u1,.int .u64 u2]]).toArray w fun e w'=>e= .returned (dwV (dwF N cs len x y z u0 u1 u2))/\Below w.heap.size w w':=by intro d res hx hr;refine rd_of_runT goodG hO 80 (l:=[.agg [.fl x,.fl y,.fl z],.agg [.si .u64 u0,.si .u64 u1,.si .u64 u2]]) hc rfl hx (fun e cells off cap hca=> ?_) w q off cap hw;obtain⟨ob,h3,h4⟩:=hr e cells off cap hca;exact⟨_,_,ob,h3,h4⟩
 generalize hR:dwF N cs len x y z u0 u1 u2=R at fin ⊢;unfold dwF at hR;cases g0:N.ub x y z
 ·rw[g0,cF]at hR;subst hR;exact fin (res:=dwS 0 z3 zV (.i .i64 0) false (.i .i64 50)) rfl fun e cells off cap hca=>⟨_,by have hr:=dwR_a N e cells off len cap x y z u0 u1 u2;rw[cut_at hca hl]at hr;exact hr,ob_c g0 (ob_c h2 ob_n)⟩
 rw[g0,cT]at hR h;by_cases gz:z.k<=z64.k
 ·rw[dT gz,cT]at hR;subst hR;exact fin (res:=dwS 0 z3 zV (.i .i64 0) false (.i .i64 0)) rfl fun e cells off cap hca=>⟨_,by have hr:=dwR_b N e cells off len cap x y z u0 u1 u2;rw[cut_at hca hl]at hr;exact hr,ob_c (dT gz) (ob_c g0 (ob_c h2 ob_n))⟩
 rw[dF gz,cF]at hR h;obtain⟨h3,h⟩:=ob_hd h;obtain⟨h4,h⟩:=ob_hd h;have h5:=h.left;have h6:=h.right;have o1:ObsOk (dwO1 N cs len x y z):=ob_c (dF gz) (ob_c g0 (ob_c h2 ob_n));have oP:∀{g:Bool},(dwP N cs len x y z u0).g=g->ObsOk (dwPO N cs len x y z u0 g):=fun hg=>ob_a (ob_c (dT hl) (ob_c h2 (ob_c h3 (ob_c h4 h5)))) (ob_c hg ob_n);clear h;by_cases ge:(dwP N cs len x y z u0).e=0
 ·rw[dT ge,cT]at hR h6;cases gg:(dwP N cs len x y z u0).g
  ·rw[gg,cF]at hR h6;have o2:ObsOk (dwO2 N cs len x y z u0 false false):=ob_c (ne_0 ge) (ob_a (oP gg) o1);obtain⟨h7,h8⟩:=ob_hd h6;have h7:=oTz h7;have h9:=h8.left;have h10:=h8.right;clear h8 h6;have o3:∀{cells:List SV}{off:Nat},CellsAt cells off cs->ObsOk (dwO3 N cells off len x y z u0):=fun{cells off}hca=>by unfold dwO3;rw[cut_at hca hl];obtain⟨hck,_⟩:=K.at hca (show(dwP N cs len x y z u0).a.toNat<len by omega);exact ob_c hck (ob_c (ix_of h7.1 h7.2) o2)
   have hnd:∀{cells:List SV}{off:Nat},CellsAt cells off cs->dwNd N cells off len x y z u0=ndR cs ((dwP N cs len x y z u0).a.toNat*19):=fun{cells off}hca=>by unfold dwNd;rw[cut_at hca hl];exact(K.at hca (show(dwP N cs len x y z u0).a.toNat<len by omega)).2
   generalize ndR cs ((dwP N cs len x y z u0).a.toNat*19)=nd at hR h9 h10 hnd;by_cases k1:nd.k=1
   ·have eb:bxF N nd (N.un x y z) u1 u2=(dwCos N u1 u2,0):=by unfold bxF;rw[dT k1,Bool.true_or,cT]
    have oo:ObsOk [(N.T.u u1,true),(N.T.u u2,true)]:=by unfold bxO at h9;rwa [dT k1,Bool.true_or,cT]at h9
    rw[eb]at hR h10;obtain⟨u1k,oo⟩:=ob_hd oo;obtain⟨u2k,_⟩:=ob_hd oo;rw[dT rfl,cT]at hR h10;obtain⟨mp,_⟩:=ob_hd h10;unfold dwLf at hR;by_cases gw:(dwMid N (dwCos N u1 u2)).2.2.k<=z64.k
    ·cases gu:N.ub (dwMid N (dwCos N u1 u2)).1 (dwMid N (dwCos N u1 u2)).2.1 (dwMid N (dwCos N u1 u2)).2.2
     ·rw[gu,dT gw]at hR;simp only[Bool.not_true,Bool.not_false,Bool.and_true,Bool.and_false,Bool.true_and,Bool.false_and,cT,cF]at hR;subst hR;exact fin (res:=dwS 0 z3 zV (.si .i64 (dwP N cs len x y z u0).a) (dwP N cs len x y z u0).s (.i .i64 0)) rfl fun e cells off cap hca=>⟨_,by have hr:=dwR_eft N e cells off len cap x y z u0 u1 u2;rw[hnd hca,cut_at hca hl]at hr;exact hr,ob_c (dT gw) (ob_c gu (ob_c mp (ob_c u1k (ob_c u2k (ob_c (beq_t k1) (o3 hca))))))⟩
     ·rw[gu,dT gw]at hR;simp only[Bool.not_true,Bool.not_false,Bool.and_true,Bool.and_false,Bool.true_and,Bool.false_and,cT,cF]at hR;subst hR;exact fin (res:=dwS 0 z3 zV (.si .i64 (dwP N cs len x y z u0).a) (dwP N cs len x y z u0).s (.i .i64 0)) rfl fun e cells off cap hca=>⟨_,by have hr:=dwR_ett N e cells off len cap x y z u0 u1 u2;rw[hnd hca,cut_at hca hl]at hr;exact hr,ob_c (dT gw) (ob_c gu (ob_c mp (ob_c u1k (ob_c u2k (ob_c (beq_t k1) (o3 hca))))))⟩
    ·cases gu:N.ub (dwMid N (dwCos N u1 u2)).1 (dwMid N (dwCos N u1 u2)).2.1 (dwMid N (dwCos N u1 u2)).2.2
     ·rw[gu,dF gw]at hR;simp only[Bool.not_true,Bool.not_false,Bool.and_true,Bool.and_false,Bool.true_and,Bool.false_and,cT,cF]at hR;subst hR;exact fin (res:=dwS 0 z3 zV (.si .i64 (dwP N cs len x y z u0).a) (dwP N cs len x y z u0).s (.i .i64 0)) rfl fun e cells off cap hca=>⟨_,by have hr:=dwR_eff N e cells off len cap x y z u0 u1 u2;rw[hnd hca,cut_at hca hl]at hr;exact hr,ob_c (dF gw) (ob_c gu (ob_c mp (ob_c u1k (ob_c u2k (ob_c (beq_t k1) (o3 hca))))))⟩
     ·rw[gu,dF gw]at hR;simp only[Bool.not_true,Bool.not_false,Bool.and_true,Bool.and_false,Bool.true_and,Bool.false_and,cT,cF]at hR;subst hR;exact fin (res:=dwS 2 (dwMid N (dwCos N u1 u2)) (dwCos N u1 u2) (.si .i64 (dwP N cs len x y z u0).a) (dwP N cs len x y z u0).s (.i .i64 0)) rfl fun e cells off cap hca=>⟨_,by have hr:=dwR_etf N e cells off len cap x y z u0 u1 u2;rw[hnd hca,cut_at hca hl]at hr;exact hr,ob_c (dF gw) (ob_c gu (ob_c mp (ob_c u1k (ob_c u2k (ob_c (beq_t k1) (o3 hca))))))⟩
   ·by_cases k2:nd.k=2
    ·have eb:bxF N nd (N.un x y z) u1 u2=(dwCos N u1 u2,0):=by unfold bxF;rw[dT k2,Bool.or_true,cT]
     have oo:ObsOk [(N.T.u u1,true),(N.T.u u2,true)]:=by unfold bxO at h9;rwa [dT k2,Bool.or_true,cT]at h9
     rw[eb]at hR h10;obtain⟨u1k,oo⟩:=ob_hd oo;obtain⟨u2k,_⟩:=ob_hd oo;rw[dT rfl,cT]at hR h10;obtain⟨mp,_⟩:=ob_hd h10;unfold dwLf at hR;by_cases gw:(dwMid N (dwCos N u1 u2)).2.2.k<=z64.k
     ·cases gu:N.ub (dwMid N (dwCos N u1 u2)).1 (dwMid N (dwCos N u1 u2)).2.1 (dwMid N (dwCos N u1 u2)).2.2
      ·rw[gu,dT gw]at hR;simp only[Bool.not_true,Bool.not_false,Bool.and_true,Bool.and_false,Bool.true_and,Bool.false_and,cT,cF]at hR;subst hR;exact fin (res:=dwS 0 z3 zV (.si .i64 (dwP N cs len x y z u0).a) (dwP N cs len x y z u0).s (.i .i64 0)) rfl fun e cells off cap hca=>⟨_,by have hr:=dwR_fft N e cells off len cap x y z u0 u1 u2;rw[hnd hca,cut_at hca hl]at hr;exact hr,ob_c (dT gw) (ob_c gu (ob_c mp (ob_c u1k (ob_c u2k (ob_c (beq_t k2) (ob_c (beq_f k1) (o3 hca)))))))⟩
      ·rw[gu,dT gw]at hR;simp only[Bool.not_true,Bool.not_false,Bool.and_true,Bool.and_false,Bool.true_and,Bool.false_and,cT,cF]at hR;subst hR;exact fin (res:=dwS 0 z3 zV (.si .i64 (dwP N cs len x y z u0).a) (dwP N cs len x y z u0).s (.i .i64 0)) rfl fun e cells off cap hca=>⟨_,by have hr:=dwR_ftt N e cells off len cap x y z u0 u1 u2;rw[hnd hca,cut_at hca hl]at hr;exact hr,ob_c (dT gw) (ob_c gu (ob_c mp (ob_c u1k (ob_c u2k (ob_c (beq_t k2) (ob_c (beq_f k1) (o3 hca)))))))⟩
     ·cases gu:N.ub (dwMid N (dwCos N u1 u2)).1 (dwMid N (dwCos N u1 u2)).2.1 (dwMid N (dwCos N u1 u2)).2.2
      ·rw[gu,dF gw]at hR;simp only[Bool.not_true,Bool.not_false,Bool.and_true,Bool.and_false,Bool.true_and,Bool.false_and,cT,cF]at hR;subst hR;exact fin (res:=dwS 0 z3 zV (.si .i64 (dwP N cs len x y z u0).a) (dwP N cs len x y z u0).s (.i .i64 0)) rfl fun e cells off cap hca=>⟨_,by have hr:=dwR_fff N e cells off len cap x y z u0 u1 u2;rw[hnd hca,cut_at hca hl]at hr;exact hr,ob_c (dF gw) (ob_c gu (ob_c mp (ob_c u1k (ob_c u2k (ob_c (beq_t k2) (ob_c (beq_f k1) (o3 hca)))))))⟩
      ·rw[gu,dF gw]at hR;simp only[Bool.not_true,Bool.not_false,Bool.and_true,Bool.and_false,Bool.true_and,Bool.false_and,cT,cF]at hR;subst hR;exact fin (res:=dwS 2 (dwMid N (dwCos N u1 u2)) (dwCos N u1 u2) (.si .i64 (dwP N cs len x y z u0).a) (dwP N cs len x y z u0).s (.i .i64 0)) rfl fun e cells off cap hca=>⟨_,by have hr:=dwR_ftf N e cells off len cap x y z u0 u1 u2;rw[hnd hca,cut_at hca hl]at hr;exact hr,ob_c (dF gw) (ob_c gu (ob_c mp (ob_c u1k (ob_c u2k (ob_c (beq_t k2) (ob_c (beq_f k1) (o3 hca)))))))⟩
    ·have ek:(decide (nd.k=1)||decide (nd.k=2))=false:=by rw[dF k1,dF k2];rfl
     unfold bxO at h9;rw[ek,cF]at h9;have oV:∀{cells:List SV}{off:Nat},CellsAt cells off cs->ObsOk (((N.vo (N.un x y z) (pt (nd.f 13)) u1 u2++ [(decide ((nd.f 13).k<=one64.k),true)])++ [(nd.k==2,false),(nd.k==1,false)])++dwO3 N cells off len x y z u0):=fun{cells off}hca=>ob_a (ob_a h9.left (ob_c (beq_f k2) (ob_c (beq_f k1) ob_n))) (o3 hca);have h11:=h9.right;by_cases gn:(dwN N (N.un x y z) (nd.f 13) u1 u2).2=0
     ·rw[dT gn,cT]at h11;have eb:bxF N nd (N.un x y z) u1 u2=N.re (N.un x y z) (dwN N (N.un x y z) (nd.f 13) u1 u2).1:=by unfold bxF;rw[ek,cF,dT gn,cT]
      rw[eb]at hR h10;by_cases gr:(N.re (N.un x y z) (dwN N (N.un x y z) (nd.f 13) u1 u2).1).2=0
      ·rw[dT gr,cT]at hR h10;obtain⟨mp,_⟩:=ob_hd h10;unfold dwLf at hR;by_cases gw:(dwMid N (N.re (N.un x y z) (dwN N (N.un x y z) (nd.f 13) u1 u2).1).1).2.2.k<=z64.k
       ·cases gu:N.ub (dwMid N (N.re (N.un x y z) (dwN N (N.un x y z) (nd.f 13) u1 u2).1).1).1 (dwMid N (N.re (N.un x y z) (dwN N (N.un x y z) (nd.f 13) u1 u2).1).1).2.1 (dwMid N (N.re (N.un x y z) (dwN N (N.un x y z) (nd.f 13) u1 u2).1).1).2.2
        ·rw[gu,dT gw]at hR;simp only[Bool.not_true,Bool.not_false,Bool.and_true,Bool.and_false,Bool.true_and,Bool.false_and,cT,cF]at hR;subst hR;exact fin (res:=dwS 0 z3 zV (.si .i64 (dwP N cs len x y z u0).a) (dwP N cs len x y z u0).s (.i .i64 0)) rfl fun e cells off cap hca=>⟨_,by have hr:=dwR_gft N e cells off len cap x y z u0 u1 u2;rw[hnd hca,cut_at hca hl]at hr;exact hr,ob_c (dT gw) (ob_c gu (ob_c mp (ob_c (ne_0 gr) (ob_a h11 (ob_c (ne_0 gn) (oV hca))))))⟩
        ·rw[gu,dT gw]at hR;simp only[Bool.not_true,Bool.not_false,Bool.and_true,Bool.and_false,Bool.true_and,Bool.false_and,cT,cF]at hR;subst hR;exact fin (res:=dwS 0 z3 zV (.si .i64 (dwP N cs len x y z u0).a) (dwP N cs len x y z u0).s (.i .i64 0)) rfl fun e cells off cap hca=>⟨_,by have hr:=dwR_gtt N e cells off len cap x y z u0 u1 u2;rw[hnd hca,cut_at hca hl]at hr;exact hr,ob_c (dT gw) (ob_c gu (ob_c mp (ob_c (ne_0 gr) (ob_a h11 (ob_c (ne_0 gn) (oV hca))))))⟩
       ·cases gu:N.ub (dwMid N (N.re (N.un x y z) (dwN N (N.un x y z) (nd.f 13) u1 u2).1).1).1 (dwMid N (N.re (N.un x y z) (dwN N (N.un x y z) (nd.f 13) u1 u2).1).1).2.1 (dwMid N (N.re (N.un x y z) (dwN N (N.un x y z) (nd.f 13) u1 u2).1).1).2.2
        ·rw[gu,dF gw]at hR;simp only[Bool.not_true,Bool.not_false,Bool.and_true,Bool.and_false,Bool.true_and,Bool.false_and,cT,cF]at hR;subst hR;exact fin (res:=dwS 0 z3 zV (.si .i64 (dwP N cs len x y z u0).a) (dwP N cs len x y z u0).s (.i .i64 0)) rfl fun e cells off cap hca=>⟨_,by have hr:=dwR_gff N e cells off len cap x y z u0 u1 u2;rw[hnd hca,cut_at hca hl]at hr;exact hr,ob_c (dF gw) (ob_c gu (ob_c mp (ob_c (ne_0 gr) (ob_a h11 (ob_c (ne_0 gn) (oV hca))))))⟩
        ·rw[gu,dF gw]at hR;simp only[Bool.not_true,Bool.not_false,Bool.and_true,Bool.and_false,Bool.true_and,Bool.false_and,cT,cF]at hR;subst hR;exact fin (res:=dwS 2 (dwMid N (N.re (N.un x y z) (dwN N (N.un x y z) (nd.f 13) u1 u2).1).1) (N.re (N.un x y z) (dwN N (N.un x y z) (nd.f 13) u1 u2).1).1 (.si .i64 (dwP N cs len x y z u0).a) (dwP N cs len x y z u0).s (.i .i64 0)) rfl fun e cells off cap hca=>⟨_,by have hr:=dwR_gtf N e cells off len cap x y z u0 u1 u2;rw[hnd hca,cut_at hca hl]at hr;exact hr,ob_c (dF gw) (ob_c gu (ob_c mp (ob_c (ne_0 gr) (ob_a h11 (ob_c (ne_0 gn) (oV hca))))))⟩
      ·rw[dF gr,cF]at hR;subst hR;exact fin (res:=dwS 0 z3 zV (.i .i64 0) false (.si .i64 (N.re (N.un x y z) (dwN N (N.un x y z) (nd.f 13) u1 u2).1).2)) rfl fun e cells off cap hca=>⟨_,by have hr:=dwR_r N e cells off len cap x y z u0 u1 u2;rw[hnd hca]at hr;exact hr,ob_c (by simpa using gr) (ob_a h11 (ob_c (ne_0 gn) (oV hca)))⟩
     ·have eb:bxF N nd (N.un x y z) u1 u2=(V3.zero,(dwN N (N.un x y z) (nd.f 13) u1 u2).2):=by unfold bxF;rw[ek,cF,dF gn,cF]
      rw[eb]at hR;simp only at hR;rw[dF gn,cF]at hR;subst hR;exact fin (res:=dwS 0 z3 zV (.i .i64 0) false (.si .i64 (dwN N (N.un x y z) (nd.f 13) u1 u2).2)) rfl fun e cells off cap hca=>⟨_,by have hr:=dwR_v N e cells off len cap x y z u0 u1 u2;rw[hnd hca]at hr;exact hr,ob_c (by simpa using gn) (ob_c (by simpa using gn) (oV hca))⟩
  ·rw[gg,cT]at hR;subst hR;exact fin (res:=dwS 1 (x.neg,y.neg,z) (dwMir N x y z) (.si .i64 (dwP N cs len x y z u0).a) (dwP N cs len x y z u0).s (.i .i64 0)) rfl fun e cells off cap hca=>⟨_,by have hr:=dwR_d N e cells off len cap x y z u0 u1 u2;rw[cut_at hca hl]at hr;exact hr,ob_c g0 (ob_c (ne_0 ge) (ob_a (oP gg) o1))⟩
 ·rw[dF ge,cF]at hR h6;obtain⟨gg,_⟩:=ob_hd h6;subst hR;exact fin (res:=dwS 0 z3 zV (.i .i64 0) false (.si .i64 (dwP N cs len x y z u0).e)) rfl fun e cells off cap hca=>⟨_,by have hr:=dwR_c N e cells off len cap x y z u0 u1 u2;rw[cut_at hca hl]at hr;exact hr,ob_c (by simpa using ge) (ob_a (oP gg) o1)⟩
end
def kDw(G:List SV->Nat->F->F->F->Int->Int->Int->DwR)(O:List SV->Nat->F->F->F->Int->Int->Int->Obs):RdF:=fun cs len l ds=>match l with
 | [.agg [.fl x, .fl y, .fl z], .agg [a, b, c]] => match intS a, intS b, intS c with
   |some (.u64,u0),some (.u64,u1),some (.u64,u2)=>some (dwSv (G cs len x y z u0 u1 u2),ds,O cs len x y z u0 u1 u2)
   |_,_,_=>none
 |_=>none
theorem dwRd{N:Ndr}(hO:OracleOk prog (ODw N))(hD:N.T.o=okPg):RdOk prog 47 (kDw (dwF N) (dwOb N)):=by
 intro cs len l ds x ds' ob h ho;unfold kDw at h;split at h
 ·rename_i x y z a b c;split at h
  ·rename_i u0 u1 u2 e0 e1 e2;simp only[sIz,pIz]at h;obtain⟨rfl,_,rfl⟩:=h;obtain⟨vc,hc,hw⟩:=dw_all hO hD ho;refine⟨vc,_,dwV (dwF N cs len x y z u0 u1 u2),hc,?_,rfl,hw⟩;have ha:=intS_plain e0;have hb:=intS_plain e1;have hcc:=intS_plain e2;exact plains_cons rfl (plains_cons (plain_agg (plains_cons ha (plains_cons hb (plains_cons hcc plains_nil)))) plains_nil)
  ·cases h
 ·cases h
noncomputable def PaN:Npa:=⟨KkR,okPg,fun c n=>lnR (fdK KkR c n) 0,fdO,unI,fun n=>decide (0<=n/\n<=18446744073709551615)⟩
theorem oraclePa:OracleOk prog (OPa PaN):=
 .cons addC <| .cons subC <| .cons mulC <| .cons divC <| .cons cmax_I <| .cons sqrC <| .cons csqrt_I <|
 .cons negC <|
 .cons numC <| .cons irtK.of <| .cons rightG.of <| .cons absG.of <| .cons vwG.of <| .cons piG.of <| .cons rgtG.of <| .cons fdG.of <| .cons unitG.of <| .nil _
theorem ptK_:RdOk prog 20 (kPt_ (nPt PaN)):=ptRd oraclePa rfl rfl
noncomputable def TpR:Npt:=nPt PaN
noncomputable def DwN:Ndr:=⟨KkR,TpR,unV KkR,unB,dV (KqR atR),vdR,drO (KqR atR),reR KkR,rt3,midM⟩
theorem oracleDw:OracleOk prog (ODw DwN):=
 .cons addC <| .cons subC <| .cons mulC <| .cons divC <| .cons cmax_I <| .cons sqrC <| .cons csqrt_I <|
 .cons negC <|
 .cons numC <| .cons irtK.of <| .cons rightG.of <| .cons absG.of <| .cons vwG.of <| .cons piG.of <| .cons rgtG.of <| .cons unG.of <| .cons ptK_.of <| .cons drawG.of <| .cons drG.of <| .cons reG.of <| .cons stG.of <| .cons midG.of <| .nil _
structure Nds where
 g:List SV->Nat->F->F->F->Int->Int->Int->DwR
 o:List SV->Nat->F->F->F->Int->Int->Int->Obs
noncomputable def DsR:Nds:=⟨dwF DwN,dwOb DwN⟩
theorem dwK:RdOk prog 47 (kDw DsR.g DsR.o):=dwRd oracleDw rfl
theorem RunsB.pickY{P:Program}{B:Bs}{d:Code}{t:St}{ex:Ex}{Φ:St->Prop}{ids:List Nat}{M':List Blk}(hn:nodupB ids=true)(hM:selM t.M ids=some M')(hk:∀(n:Nat),n<B.M.length->ids[n]? =some n)(h:∀v,RunsB P B d (t.sel ids M' v) ex Φ):RunsB P B d t ex Φ:=
 fun m _ w Q hs hg hq=>h _ (m.sel ids) _ w Q (hs.sel hn hM) (hg.sel hn hM hk) hq
structure Nsm where
 D:Nds
 T:Nwt
def OSm(S:Nsm):OracleF:=lookO [(47,kRd 19 (kDw S.D.g S.D.o)),(24,kRd 19 (kWgA S.T))]
structure SmR where
 d:DwR
 w:Nat->I
 e:Int
def zI:I:=⟨toF 0,toF 0⟩
def smSv(r:SmR)(e:SV):SV:= .tup [.agg [.si .u8 r.d.k,.fl r.d.p.1,.fl r.d.p.2.1,.fl r.d.p.2.2,.fl r.d.b.x.lo,.fl r.d.b.x.hi,.fl r.d.b.y.lo,.fl r.d.b.y.hi,.fl r.d.b.z.lo,.fl r.d.b.z.hi,.si .i64 r.d.a,.b r.d.s],.agg [.fl (r.w 0).lo,.fl (r.w 0).hi,.fl (r.w 1).lo,.fl (r.w 1).hi,.fl (r.w 2).lo,.fl (r.w 2).hi],e]
def smZs(e:SV):SV:= .tup [.agg [.i .u8 0,.fl (toF 0),.fl (toF 0),.fl (toF 0),.fl (toF 0),.fl (toF 0),.fl (toF 0),.fl (toF 0),.fl (toF 0),.fl (toF 0),.i .i64 0,.b false],.agg [.fl (toF 0),.fl (toF 0),.fl (toF 0),.fl (toF 0),.fl (toF 0),.fl (toF 0)],e]
def smV(r:SmR):Value:= .tuple #[.agg #[.int .u8 r.d.k,.float .f64 r.d.p.1.b,.float .f64 r.d.p.2.1.b,.float .f64 r.d.p.2.2.b,.float .f64 r.d.b.x.lo.b,.float .f64 r.d.b.x.hi.b,.float .f64 r.d.b.y.lo.b,.float .f64 r.d.b.y.hi.b,.float .f64 r.d.b.z.lo.b,.float .f64 r.d.b.z.hi.b,.int .i64 r.d.a,.bool r.d.s],.agg #[.float .f64 (r.w 0).lo.b,.float .f64 (r.w 0).hi.b,.float .f64 (r.w 1).lo.b,.float .f64 (r.w 1).hi.b,.float .f64 (r.w 2).lo.b,.float .f64 (r.w 2).hi.b],.int .i64 r.e]
def smZr(e:Int):SmR:=⟨⟨0,(toF 0,toF 0,toF 0),⟨zI,zI,zI⟩,0,false,0⟩,fun _=>zI,e⟩
section
variable (S:Nsm) (cs:List SV) (len:Nat) (x y z:F) (u0 u1 u2:Int)
def smD(S:Nsm)(cs:List SV)(len:Nat)(x y z:F)(u0 u1 u2:Int):DwR:=S.D.g cs len x y z u0 u1 u2
def smT(S:Nsm)(cs:List SV)(len:Nat)(x y z:F)(u0 u1 u2:Int):WgR:=S.T.g cs len x y z (smD S cs len x y z u0 u1 u2).k (smD S cs len x y z u0 u1 u2).p.1.b (smD S cs len x y z u0 u1 u2).p.2.1.b (smD S cs len x y z u0 u1 u2).p.2.2.b
def smTo(S:Nsm)(cs:List SV)(len:Nat)(x y z:F)(u0 u1 u2:Int):Obs:=S.T.o cs len x y z (smD S cs len x y z u0 u1 u2).k (smD S cs len x y z u0 u1 u2).p.1.b (smD S cs len x y z u0 u1 u2).p.2.1.b (smD S cs len x y z u0 u1 u2).p.2.2.b
def smF(S:Nsm)(cs:List SV)(len:Nat)(x y z:F)(u0 u1 u2:Int):SmR:=
 bif decide ((smD S cs len x y z u0 u1 u2).e=0)then
  bif decide ((smT S cs len x y z u0 u1 u2).e=0)then⟨smD S cs len x y z u0 u1 u2,(smT S cs len x y z u0 u1 u2).w,0⟩else smZr (smT S cs len x y z u0 u1 u2).e
 else smZr (smD S cs len x y z u0 u1 u2).e
def smO(S:Nsm)(cs:List SV)(len:Nat)(x y z:F)(u0 u1 u2:Int):Obs:=
 (decide (cs.length=len*19),true)::((plains cs).isSome,true)::(S.D.o cs len x y z u0 u1 u2++(bif decide ((smD S cs len x y z u0 u1 u2).e=0)then smTo S cs len x y z u0 u1 u2 else[]))
variable (e:TypeId) (cells:List SV) (off cap:Nat)
noncomputable def smRun(S:Nsm)(e:TypeId)(cells:List SV)(off len cap:Nat)(x y z:F)(u0 u1 u2:Int)(d:List Bool):=
 ((run prog EG (OSm S) 80).1 49 [.ssl 0 off len cap,.agg [.fl x,.fl y,.fl z],.agg [.si .u64 u0,.si .u64 u1,.si .u64 u2]] [⟨e,cells,.num⟩] (some d)).map (fun q=>(q.1,q.2.1.take 1,q.2.2))
theorem smR_d:smRun S e cells off len cap x y z u0 u1 u2 [true]=some (smZs (.si .i64 (smD S (cutC cells off len) len x y z u0 u1 u2).e),[⟨e,cells,.num⟩],some [],((smD S (cutC cells off len) len x y z u0 u1 u2).e != 0,true)::S.D.o (cutC cells off len) len x y z u0 u1 u2++ []):=by unfold smRun;kernel_rfl
theorem smR_w:smRun S e cells off len cap x y z u0 u1 u2 [false,true]=some (smZs (.si .i64 (smT S (cutC cells off len) len x y z u0 u1 u2).e),[⟨e,cells,.num⟩],some [],((smT S (cutC cells off len) len x y z u0 u1 u2).e != 0,true)::(smTo S (cutC cells off len) len x y z u0 u1 u2++(((smD S (cutC cells off len) len x y z u0 u1 u2).e != 0,false)::(S.D.o (cutC cells off len) len x y z u0 u1 u2++ [])))):=by unfold smRun;kernel_rfl
theorem smR_k:smRun S e cells off len cap x y z u0 u1 u2 [false,false]=some (smSv ⟨smD S (cutC cells off len) len x y z u0 u1 u2,(smT S (cutC cells off len) len x y z u0 u1 u2).w,0⟩ (.i .i64 0),[⟨e,cells,.num⟩],some [],((smT S (cutC cells off len) len x y z u0 u1 u2).e != 0,false)::(smTo S (cutC cells off len) len x y z u0 u1 u2++(((smD S (cutC cells off len) len x y z u0 u1 u2).e != 0,false)::(S.D.o (cutC cells off len) len x y z u0 u1 u2++ [])))):=by unfold smRun;kernel_rfl
end
def kSm(S:Nsm):RdF:=fun cs len l ds=>match l with
 | [.agg [.fl x, .fl y, .fl z], .agg [a, b, c]] => match intS a, intS b, intS c with
   |some (.u64,u0),some (.u64,u1),some (.u64,u2)=>some (smSv (smF S cs len x y z u0 u1 u2) (.si .i64 (smF S cs len x y z u0 u1 u2).e),ds,smO S cs len x y z u0 u1 u2)
   |_,_,_=>none
 |_=>none
set_option maxRecDepth 20000 in
theorem smG{S:Nsm}(hO:OracleOk prog (OSm S)):RdOk prog 49 (kSm S):=by
 intro cs len l ds r0 ds' ob h ho;unfold kSm at h;split at h
 ·rename_i x y z a b c;split at h
  ·rename_i u0 u1 u2 e0 e1 e2;simp only[sIz,pIz]at h;obtain⟨rfl,_,rfl⟩:=h;unfold smO at ho;obtain⟨h1,ho⟩:=ob_h2 ho;obtain⟨h2,ho⟩:=ob_h2 ho;have hl:cs.length=len*19:=oTz h1;obtain⟨vc,hc⟩:=Option.isSome_iff_exists.1 h2;have hD:=ho.left;have hT:=ho.right;clear ho;refine⟨vc,[.agg #[.float .f64 x.b,.float .f64 y.b,.float .f64 z.b],.agg #[.int .u64 u0,.int .u64 u1,.int .u64 u2]],smV (smF S cs len x y z u0 u1 u2),hc,plains_cons rfl (plains_cons (plain_agg (plains_cons (intS_plain e0) (plains_cons (intS_plain e1) (plains_cons (intS_plain e2) plains_nil)))) plains_nil),rfl,fun w q off cap hw=> ?_⟩;have fin:∀{d:List Bool}{res:SV}(hx:plain res=some (smV (smF S cs len x y z u0 u1 u2)))(hr:∀(e:TypeId)(cells:List SV)(off cap:Nat),CellsAt cells off cs->∃ob,smRun S e cells off len cap x y z u0 u1 u2 d=some (res,[⟨e,cells,.num⟩],some [],ob)/\ObsOk ob),Calls prog 49 (Value.slice (some ⟨q,off,none⟩) len cap:: [.agg #[.float .f64 x.b,.float .f64 y.b,.float .f64 z.b],.agg #[.int .u64 u0,.int .u64 u1,.int .u64 u2]]).toArray w fun e w'=>e= .returned (smV (smF S cs len x y z u0 u1 u2))/\Below w.heap.size w w':=by intro d res hx hr;refine rd_of_runT goodG hO 80 (l:=[.agg [.fl x,.fl y,.fl z],.agg [.si .u64 u0,.si .u64 u1,.si .u64 u2]]) hc rfl hx (fun e cells off cap hca=> ?_) w q off cap hw;obtain⟨ob,h3,h4⟩:=hr e cells off cap hca;exact⟨_,_,ob,h3,h4⟩
   generalize hR:smF S cs len x y z u0 u1 u2=R at fin ⊢;unfold smF at hR;by_cases g1:(smD S cs len x y z u0 u1 u2).e=0
   ·rw[dT g1,cT]at hR hT;by_cases g2:(smT S cs len x y z u0 u1 u2).e=0
    ·rw[dT g2,cT]at hR;subst hR;exact fin (res:=smSv ⟨smD S cs len x y z u0 u1 u2,(smT S cs len x y z u0 u1 u2).w,0⟩ (.i .i64 0)) rfl fun e cells off cap hca=>⟨_,by have hr:=smR_k S len x y z u0 u1 u2 e cells off cap;rw[cut_at hca hl]at hr;exact hr,ob_c (ne_0 g2) (ob_a hT (ob_c (ne_0 g1) (ob_a hD ob_n)))⟩
    ·rw[dF g2,cF]at hR;subst hR;exact fin (res:=smZs (.si .i64 (smT S cs len x y z u0 u1 u2).e)) rfl fun e cells off cap hca=>⟨_,by have hr:=smR_w S len x y z u0 u1 u2 e cells off cap;rw[cut_at hca hl]at hr;exact hr,ob_c (by simpa using g2) (ob_a hT (ob_c (ne_0 g1) (ob_a hD ob_n)))⟩
   ·rw[dF g1,cF]at hR;subst hR;exact fin (res:=smZs (.si .i64 (smD S cs len x y z u0 u1 u2).e)) rfl fun e cells off cap hca=>⟨_,by have hr:=smR_d S len x y z u0 u1 u2 e cells off cap;rw[cut_at hca hl]at hr;exact hr,ob_c (by simpa using g1) (ob_a hD ob_n)⟩
  ·cases h
 ·cases h
noncomputable def SmN:Nsm:=⟨DsR,WtR⟩
theorem oracleSm:OracleOk prog (OSm SmN):= .cons dwK.of <| .cons wgAG.of <| .nil _
theorem smK:RdOk prog 49 (kSm SmN):=smG oracleSm
def OA24(T:Nwt):OracleF:=lookO [(24,wgA_O T)]
def awD24:List Bool:=List.replicate 12 true
noncomputable def aw24(T:Nwt):Obs:=match valR ((run prog EG (OA24 T) 120).1 31 [] [] (some awD24))with
 |some r=>r.2.2
 |none=>[]
theorem aw24Run(T:Nwt):valR ((run prog EG (OA24 T) 120).1 31 [] [] (some awD24))=some (.b true,some [],aw24 T):=by kernel_rfl
set_option maxRecDepth 100000 in
theorem aw24_B:Bu.obsB (aw24 WtR)=true:=by decide+kernel
theorem oracleA24:OracleOk prog (OA24 WtR):= .cons wgA_OG (.nil _)
theorem awake24G:PlainOk prog 31 (oConst (.b true)):=constG rfl fun w=>calls_of_val goodG oracleA24 120 (aw24Run WtR) (obsB_ok aw24_B) rfl rfl w
end Go.Proofs.YtejcekikbnlllaaGreat
namespace Bu
open Rx Go
theorem CellsAt.left{a b cs:List SV}{off:Nat}(h:CellsAt a off cs):CellsAt (a++b) off cs:=fun j x hx=>by have:=h j x hx;rw[List.getElem?_append_left (List.getElem?_eq_some_iff.1 this).1];exact this
theorem CellsAt.right(a b:List SV):CellsAt (a++b) a.length b:=fun j x hx=>by rw[List.getElem?_append_right (by omega),show a.length+j-a.length=j by omega];exact hx
theorem nd_of{cells cs:List SV}{off:Nat}(h:CellsAt cells off cs)(hk:ckAll cs 0 ndCK=true):ckAll cells off ndCK=true/\ndR cells off=ndR cs 0:=by obtain⟨a,b⟩:=at_row h hk;rw[Nat.add_zero]at a b;refine⟨b,?_⟩;have e:=nd_row cells off;rw[a,nd_row cs 0]at e;exact(Option.some.inj e).symm
end Bu
namespace Go.Proofs.YtejcekikbnlllaaGreat
open Go.RowKit Bu Rx
def rowP(N:Npr)(U:Nat->U8):Nat->List SV
 |0=>nzC (N.k (U 0)) (N.f (U 0))
 |j+1=>rowN N (U (j+1)) (j+1)
theorem prgC_row(N:Npr)(U:Nat->U8):∀{k j:Nat},j<=k->CellsAt (prgC N U k) (j*19) (rowP N U j)
 | 0, j, h => by
   obtain rfl:j=0:=by omega
   intro i x hx;rw[Nat.zero_mul,Nat.zero_add];exact hx
 | k + 1, j, h => by
   rcases Nat.lt_or_ge j (k+1)with h1|h1
   ·exact CellsAt.left (prgC_row N U (k:=k) (j:=j) (by omega))
   ·obtain rfl:j=k+1:=by omega
    have:=CellsAt.right (prgC N U k) (rowN N (U (k+1)) (k+1));rw[prgC_len]at this;exact this
theorem rowP_ck(N:Npr)(U:Nat->U8):∀j,ckAll (rowP N U j) 0 ndCK=true
 |0=>rfl
 | j + 1 => by
   show ckAll (rowN N (U (j+1)) (j+1)) 0 ndCK=true;unfold rowN;cases decide (prT (U (j+1))=0)
   ·cases decide (prT (U (j+1))=1)||decide (prT (U (j+1))=2)<;>rfl
   ·rfl
theorem rowP_pl(N:Npr)(U:Nat->U8):∀j,∃vs,plains (rowP N U j)=some vs
 |0=>⟨_,rfl⟩
 | j + 1 => by
   show ∃vs,plains (rowN N (U (j+1)) (j+1))=some vs;unfold rowN;cases decide (prT (U (j+1))=0)
   ·cases decide (prT (U (j+1))=1)||decide (prT (U (j+1))=2)<;>exact⟨_,rfl⟩
   ·exact⟨_,rfl⟩
theorem prgC_pl(N:Npr)(U:Nat->U8):∀k,∃vs,plains (prgC N U k)=some vs
 |0=>rowP_pl N U 0
 | k + 1 => by obtain⟨a,ha⟩:=prgC_pl N U k;obtain⟨b,hb⟩:=rowP_pl N U (k+1);exact⟨a++b,plains_app ha hb⟩
theorem tmod_in{a:Int}{n:Nat}(ha:0<=a)(h1:1<=n)(h8:n<=8):0<=IntKind.i64.wrap (a.tmod (IntKind.u32.wrap (n:Int)))/\IntKind.i64.wrap (a.tmod (IntKind.u32.wrap (n:Int)))<n:=by rw[u32_small h8,Int.tmod_eq_emod_of_nonneg ha,IntKind.wrap_i64];have h2:=Int.emod_nonneg a (show(n:Int)≠0 by omega);have h3:=Int.emod_lt_of_pos a (show 0<(n:Int) by omega);omega
theorem w32_nn{n:Int}(h:wN32 n=true):0<=n:=(oTz h).1
theorem nd_co(n t0 t1 t2:F)(a:Int):ndR (coC n t0 t1 t2 a) 0=⟨6,ndM z64 z64 z64 t0 t1 t2 z64 z64 z64 z64 z64 z64 z64 z64 n z64,a,0⟩:=by kernel_rfl
theorem nd_mx(w:F)(a b:Int):ndR (mxC w a b) 0=⟨5,ndM z64 z64 z64 z64 z64 z64 z64 z64 z64 z64 z64 z64 z64 z64 z64 w,a,b⟩:=by kernel_rfl
theorem nd_lf(u:U8):ndR (nzC (leK u) (leF bwF u)) 0=leNd u:=by kernel_rfl
theorem okNd_row{u:U8}{n:Nat}(hu:prgB NprR u=true)(h1:1<=n)(h8:n<=8):okNd (ndR (rowN NprR u n) 0) n=true:=by
 unfold prgB at hu;simp only[aTz]at hu;obtain⟨o,w3,w4,w5,w6⟩:=hu;have ok:u.ok=true:=o;unfold U8.ok at ok;simp only[aTz]at ok;obtain⟨_,a1,a2,_⟩:=ok;have m1:=tmod_in (w32_nn a1) h1 h8;have m2:=tmod_in (w32_nn a2) h1 h8;unfold rowN;cases decide (prT u=0)
 ·cases decide (prT u=1)||decide (prT u=2)
  ·show okNd (ndR (coC (bwF minIo four64 u.a3) (frT u.a4) (frT u.a5) (frT u.a6) (prA u n)) 0) n=true;rw[nd_co];exact okNd_6 (bw_rn rk_le.2.2.1) (fr_rn w4) (fr_rn w5) (fr_rn w6) m1.1 m1.2
  ·show okNd (ndR (mxC (frT u.a3) (prA u n) (prB u n)) 0) n=true;rw[nd_mx];exact okNd_5 (fr_rn w3) m1.1 m1.2 m2.1 m2.2
 ·show okNd (ndR (nzC (leK u) (leF bwF u)) 0) n=true;rw[nd_lf];exact okNd_le u n
theorem okPg_prg{U:Nat->U8}{k:Nat}(hk:k<=8)(hU:∀j,j<=k->prgB NprR (U j)=true):okPg (prgC NprR U k) (k+1)=true:=by
 obtain⟨vs,hv⟩:=prgC_pl NprR U k;refine okPg_mk (by rw[hv];rfl) (by omega) (by omega) fun i hi=> ?_;obtain⟨c1,c2⟩:=nd_of (prgC_row NprR U (k:=k) (j:=i) (by omega)) (rowP_ck NprR U i);refine okAt_n c1 c2 ?_;cases i with
 | zero =>
   show okNd (ndR (nzC (leK (U 0)) (leF bwF (U 0))) 0) _=true;rw[nd_lf];exact okNd_le _ _
 |succ i=>exact okNd_row (hU (i+1) (by omega)) (by omega) (by omega)
theorem u8Z_B:prgB NprR u8Z=true:=by decide+kernel
theorem prog_ok{cs:List SV}{len:Nat}(h:prInB NprR cs len=true):okPg (prgC NprR (prU cs len) (prK len)) (prK len+1)=true/\prK len<=7:=by
 have K:=prInB_ok h;have h7:prK len<=7:=by
  rcases Nat.eq_zero_or_pos len with h0|h0
  ·subst h0;rw[prK_0];omega
  ·have:=(prK_s h0).1;omega
 refine⟨okPg_prg (by omega) fun j hj=> ?_,h7⟩;unfold prU;cases len with
 |zero=>exact u8Z_B
 | succ n =>
   have:=(prK_s (len:=n+1) (by omega)).1;exact K.ok j (by omega) (by omega)
end Go.Proofs.YtejcekikbnlllaaGreat
namespace Bu
open Rx Go
end Bu
namespace Go.Proofs.YtejcekikbnlllaaGreat
open Go.RowKit Bu Rx
end Go.Proofs.YtejcekikbnlllaaGreat
