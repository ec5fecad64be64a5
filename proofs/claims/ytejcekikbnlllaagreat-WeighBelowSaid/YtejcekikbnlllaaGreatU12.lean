/- Layer 11's laws: leaves, two directions, parts of 2^32: known functions. dens.all: .. -/
import Derived.Test.YtejcekikbnlllaaGreatU11
set_option linter.all false
open Go.Proofs.Tryz(prog)
namespace Bu
open Rx Go
structure U8 where
 a0:Int
 a1:Int
 a2:Int
 a3:Int
 a4:Int
 a5:Int
 a6:Int
 a7:Int
structure U6 where
 a0:Int
 a1:Int
 a2:Int
 a3:Int
 a4:Int
 a5:Int
def U8.sv(u:U8):SV:= .agg [.si .u32 u.a0,.si .u32 u.a1,.si .u32 u.a2,.si .u32 u.a3,.si .u32 u.a4,.si .u32 u.a5,.si .u32 u.a6,.si .u32 u.a7]
def U8.ok(u:U8):Bool:=wN32 u.a0&&(wN32 u.a1&&(wN32 u.a2&&(wN32 u.a3&&(wN32 u.a4&&(wN32 u.a5&&(wN32 u.a6&&wN32 u.a7))))))
abbrev Bw:=F->F->Int->F
def ndL(a0 a1 a2 a3 a4 a5 a6 a7 a8 a9 a10 a11 a12 a13 a14 a15:F)(i:Nat):F:=[a0,a1,a2,a3,a4,a5,a6,a7,a8,a9,a10,a11,a12,a13,a14,a15].getD i z64
def leF1(b:Bw)(u:U8):Nat->F:=ndL (b z64 one64 u.a1) (b z64 one64 u.a2) (b z64 one64 u.a3) z64 z64 z64 z64 z64 z64 z64 z64 z64 z64 z64 z64 z64
def leF2(b:Bw)(u:U8):Nat->F:=ndL (b z64 one64 u.a1) (b z64 one64 u.a2) (b z64 one64 u.a3) z64 z64 z64 z64 z64 z64 z64 z64 z64 (b z64 one64 u.a4) z64 z64 z64
def leF3(b:Bw)(u:U8):Nat->F:=ndL z64 z64 z64 z64 z64 z64 z64 z64 z64 z64 z64 z64 z64 (b minA one64 u.a1) (b minIo four64 u.a2) z64
def leF4(b:Bw)(u:U8):Nat->F:=ndL z64 z64 z64 z64 z64 z64 (b minMt maxMt u.a2) (b minMt maxMt u.a3) (b minMt maxMt u.a4) (b minMt maxMt u.a5) (b minMt maxMt u.a6) (b minMt maxMt u.a7) z64 (b minA one64 u.a1) z64 z64
def leK(u:U8):Int:=bif decide (u.a0.tmod 4=0)then 1 else bif decide (u.a0.tmod 4=1)then 2 else bif decide (u.a0.tmod 4=2)then 3 else 4
def leF(b:Bw)(u:U8):Nat->F:=bif decide (u.a0.tmod 4=0)then leF1 b u else bif decide (u.a0.tmod 4=1)then leF2 b u else bif decide (u.a0.tmod 4=2)then leF3 b u else leF4 b u
theorem rk_p:pairB z64 one64=true/\pairB minA one64=true/\pairB minIo four64=true/\pairB minMt maxMt=true/\pairB mone64 one64=true/\pairB d64 one64=true:=by decide+kernel
theorem rk_le:z64.k<=one64.k/\minA.k<=one64.k/\minIo.k<=four64.k/\minMt.k<=maxMt.k:=by decide+kernel
def nodeZ(k:Int)(f:Nat->F):SV:= .agg [.si .u8 k,.fl (f 0),.fl (f 1),.fl (f 2),.fl (f 3),.fl (f 4),.fl (f 5),.fl (f 6),.fl (f 7),.fl (f 8),.fl (f 9),.fl (f 10),.fl (f 11),.fl (f 12),.fl (f 13),.fl (f 14),.fl (f 15),.i .i64 0,.i .i64 0]
def kLe(k:U8->Int)(f:U8->Nat->F)(o:U8->Bool):List SV->Dec->Option (SV×Dec×Obs)
 | [.agg [.si .u32 a0,.si .u32 a1,.si .u32 a2,.si .u32 a3,.si .u32 a4,.si .u32 a5,.si .u32 a6,.si .u32 a7]],ds=>some (nodeZ (k ⟨a0,a1,a2,a3,a4,a5,a6,a7⟩) (f ⟨a0,a1,a2,a3,a4,a5,a6,a7⟩),ds,[(o ⟨a0,a1,a2,a3,a4,a5,a6,a7⟩,true)])
 |_,_=>none
def twV(un:F->F->F->V3)(b:Bw)(x y z:Int):V3:=un (b mone64 one64 x) (b mone64 one64 y) (b d64 one64 z)
theorem e64_q:d64.q=1/64:=by have:d64.q*64=1:=q_of' (n:=1) (s:=6) (by decide+kernel) rfl;grind
theorem bwN1{n:Int}:N1 (bwF mone64 one64 n):=by have h:=bwF_in (a:=mone64) (b:=one64) (n:=n) (q_le.1 (by rw[mone_q,one_q];grind));have a:=q_le.2 h.1;have b:=q_le.2 h.2;rw[mone_q]at a;rw[one_q]at b;exact⟨a,b⟩
theorem bwN2{n:Int}:1/64<=(bwF d64 one64 n).q/\(bwF d64 one64 n).q<=1:=by have h:=bwF_in (a:=d64) (b:=one64) (n:=n) (q_le.1 (by rw[e64_q,one_q];grind));have a:=q_le.2 h.1;have b:=q_le.2 h.2;rw[e64_q]at a;rw[one_q]at b;exact⟨a,b⟩
theorem twP(x y z:Int):OneP (twV (unV KkR) bwF x y z):=un_ok bwN1 bwN1 bwN2.1 bwN2.2
def kFq(f:Int->F)(u:Int->Bool):List SV->Dec->Option (SV×Dec×Obs)
 | [x], ds => match intS x with
   |some (.u32,n)=>some (.fl (f n),ds,[(u n,true)])
   |_=>none
 |_,_=>none
end Bu
namespace Go.Proofs.YtejcekikbnlllaaGreat
open Go.RowKit Bu Rx
def OLe(b:Bw)(p:F->F->Bool)(w:Int->Bool):OracleF:=lookO [(36,plainO (kBw b p w))]
def bO(p:F->F->Bool)(w:Int->Bool)(l h:F)(n:Int)(o:Obs):Obs:=(p l h,true)::(w n,true)::o
def sO(u:U8):Obs:=[(decide (u.a0=u.a0),true),(decide (u.a1=u.a1),true),(decide (u.a2=u.a2),true),(decide (u.a3=u.a3),true),(decide (u.a4=u.a4),true),(decide (u.a5=u.a5),true),(decide (u.a6=u.a6),true),(decide (u.a7=u.a7),true)]
theorem sO_ok{u:U8}{o:Obs}(h:ObsOk o):ObsOk (sO u++o):=ob_a (ob_c (dT rfl) (ob_c (dT rfl) (ob_c (dT rfl) (ob_c (dT rfl) (ob_c (dT rfl) (ob_c (dT rfl) (ob_c (dT rfl) (ob_c (dT rfl) ob_n)))))))) h
def leD(u:U8)(i:Int)(b:Bool):Bool×Bool:=(decide (u.a0.tmod 4=i),b)
theorem leRun1(b:Bw)(p:F->F->Bool)(w:Int->Bool)(u:U8):valR ((run prog EG (OLe b p w) 80).1 58 [u.sv] [] (some [true]))=some (nodeS 1 (leF1 b u),some [],sO u++bO p w z64 one64 u.a3 (bO p w z64 one64 u.a2 (bO p w z64 one64 u.a1 [leD u 0 true]))):=by kernel_rfl
theorem leRun2(b:Bw)(p:F->F->Bool)(w:Int->Bool)(u:U8):valR ((run prog EG (OLe b p w) 80).1 58 [u.sv] [] (some [false,true]))=some (nodeS 2 (leF2 b u),some [],bO p w z64 one64 u.a4 (sO u++bO p w z64 one64 u.a3 (bO p w z64 one64 u.a2 (bO p w z64 one64 u.a1 [leD u 1 true,leD u 0 false])))):=by kernel_rfl
theorem leRun3(b:Bw)(p:F->F->Bool)(w:Int->Bool)(u:U8):valR ((run prog EG (OLe b p w) 80).1 58 [u.sv] [] (some [false,false,true]))=some (nodeS 3 (leF3 b u),some [],bO p w minIo four64 u.a2 (bO p w minA one64 u.a1 [leD u 2 true,leD u 1 false,leD u 0 false])):=by kernel_rfl
theorem leRun4(b:Bw)(p:F->F->Bool)(w:Int->Bool)(u:U8):valR ((run prog EG (OLe b p w) 80).1 58 [u.sv] [] (some [false,false,false]))=some (nodeS 4 (leF4 b u),some [],sO u++bO p w minMt maxMt u.a7 (bO p w minMt maxMt u.a6 (bO p w minMt maxMt u.a5 (sO u++bO p w minMt maxMt u.a4 (bO p w minMt maxMt u.a3 (bO p w minMt maxMt u.a2 (bO p w minA one64 u.a1 [leD u 2 false,leD u 1 false,leD u 0 false]))))))):=by kernel_rfl
theorem oracleLe:OracleOk prog (OLe bwF pairB wN32):= .cons bwG.of (.nil _)
def nodeV(k:Int)(f:Nat->F):Value:= .agg #[.int .u8 k,.float .f64 (f 0).b,.float .f64 (f 1).b,.float .f64 (f 2).b,.float .f64 (f 3).b,.float .f64 (f 4).b,.float .f64 (f 5).b,.float .f64 (f 6).b,.float .f64 (f 7).b,.float .f64 (f 8).b,.float .f64 (f 9).b,.float .f64 (f 10).b,.float .f64 (f 11).b,.float .f64 (f 12).b,.float .f64 (f 13).b,.float .f64 (f 14).b,.float .f64 (f 15).b,.int .i64 0,.int .i64 0]
theorem nd_pl(k:Int)(f:Nat->F):plain (nodeS k f)=some (nodeV k f)/\plain (nodeZ k f)=some (nodeV k f):=⟨rfl,rfl⟩
theorem leG:PlainOk prog 58 (kLe leK (leF bwF) U8.ok):=by
 intro args ds x ds' ob h ho;unfold kLe at h;split at h
 ·rename_i a0 a1 a2 a3 a4 a5 a6 a7;simp only[sIz,pIz]at h;obtain⟨rfl,_,rfl⟩:=h;generalize hu:(⟨a0,a1,a2,a3,a4,a5,a6,a7⟩:U8)=u at*;have e:(.agg [.si .u32 a0,.si .u32 a1,.si .u32 a2,.si .u32 a3,.si .u32 a4,.si .u32 a5,.si .u32 a6,.si .u32 a7]:SV)=u.sv:=by subst hu;rfl
  rw[e];have k:u.ok=true:=ob_h ho;unfold U8.ok at k;simp only[aTz]at k;obtain⟨k0,k1,k2,k3,k4,k5,k6,k7⟩:=k;obtain⟨p1,p2,p3,p4,_⟩:=rk_p;have bo:∀{l h:F}{n:Int}{o:Obs},pairB l h=true->wN32 n=true->ObsOk o->ObsOk (bO pairB wN32 l h n o):=fun a b c=>ob_c a (ob_c b c);refine⟨[.agg #[.int .u32 u.a0,.int .u32 u.a1,.int .u32 u.a2,.int .u32 u.a3,.int .u32 u.a4,.int .u32 u.a5,.int .u32 u.a6,.int .u32 u.a7]],_,rfl,(nd_pl _ _).2,fun w=> ?_⟩;have r1:=leRun1 bwF pairB wN32 u;have r2:=leRun2 bwF pairB wN32 u;have r3:=leRun3 bwF pairB wN32 u;have r4:=leRun4 bwF pairB wN32 u;unfold leD at r1 r2 r3 r4;unfold leK leF;cases c0:decide (u.a0.tmod 4=0)<;>rw[c0]at r1 r2 r3 r4
  ·cases c1:decide (u.a0.tmod 4=1)<;>rw[c1]at r2 r3 r4
   ·cases c2:decide (u.a0.tmod 4=2)<;>rw[c2]at r3 r4
    ·exact calls_of_val goodG oracleLe 80 r4 (sO_ok (bo p4 k7 (bo p4 k6 (bo p4 k5 (sO_ok (bo p4 k4 (bo p4 k3 (bo p4 k2 (bo p2 k1 (ob_c rfl (ob_c rfl (ob_c rfl ob_n)))))))))))) rfl (nd_pl _ _).1 w
    ·exact calls_of_val goodG oracleLe 80 r3 (bo p3 k2 (bo p2 k1 (ob_c rfl (ob_c rfl (ob_c rfl ob_n))))) rfl (nd_pl _ _).1 w
   ·exact calls_of_val goodG oracleLe 80 r2 (bo p1 k4 (sO_ok (bo p1 k3 (bo p1 k2 (bo p1 k1 (ob_c rfl (ob_c rfl ob_n))))))) rfl (nd_pl _ _).1 w
  ·exact calls_of_val goodG oracleLe 80 r1 (sO_ok (bo p1 k3 (bo p1 k2 (bo p1 k1 (ob_c rfl ob_n))))) rfl (nd_pl _ _).1 w
 ·cases h
theorem frqRun(n:Int):valR ((run prog EG OIM 80).1 23 [.si .u32 n] [] (some []))=some (.fl (frT n),some [],so (fdv (toF (FloatKind.f64.nearest n)) cN32)++ [(rightB (FloatKind.f64.nearest n),true)]):=by kernel_rfl
theorem frqG:PlainOk prog 23 (kFq frT wN32):=by
 intro args ds x ds' ob h ho;unfold kFq at h;split at h
 ·rename_i u;split at h
  ·rename_i n hk;simp only[sIz,pIz]at h;obtain⟨rfl,_,rfl⟩:=h;obtain⟨t,e,_,_,hr⟩:=frT_ok (ob_h ho);exact⟨[.int .u32 n],_,plains_cons (intS_plain hk) plains_nil,rfl,fun w=>calls_of_val goodG oracleIM 80 (frqRun n) (ob_a (ObsOk.of_B (so_ok e).1) (ob_c hr ob_n)) rfl rfl w⟩
  ·cases h
 ·cases h
end Go.Proofs.YtejcekikbnlllaaGreat
namespace Bu
open Rx Go
structure Ch where
 p:I
 m:I
def Ch.cells(c:Ch):List SV:=[.fl c.p.lo,.fl c.p.hi,.fl c.m.lo,.fl c.m.hi]
def Ch.sv(c:Ch):SV:= .agg c.cells
def Ch.zero:Ch:=⟨⟨F.zero,F.zero⟩,⟨F.zero,F.zero⟩⟩
def chAt(cs:List SV)(o:Nat):Ch:=⟨⟨flAt cs o,flAt cs (o+1)⟩,⟨flAt cs (o+2),flAt cs (o+3)⟩⟩
structure Nde where
 K:Kk
 D:I->I->I×Int
 dO:I->I->Obs
 g:Lf->I×Int
 go:Lf->Obs
def mixK(K:Kk)(e:Int)(w:F)(a b:I):I×Int:=
 let q1:=K.num e one_
 let q2:=K.num q1.2 w
 let s:=K.sub q2.2 q1.1 q2.1
 let m1:=K.mul s.2 s.1 a
 let q3:=K.num m1.2 w
 let m2:=K.mul q3.2 q3.1 b
 K.add m2.2 m1.1 m2.1
end Bu
namespace Go.Proofs.YtejcekikbnlllaaGreat
open Go.RowKit Bu Rx
def kDn(g:Lf->I×Int)(o:Lf->Obs):List SV->Dec->Option (SV×Dec×Obs)
 | [x, .agg [.fl p0, .fl p1, .fl p2, .fl p3, .fl p4, .fl p5], .agg [.fl r0, .fl r1, .fl r2, .fl r3, .fl r4, .fl r5]], ds => match ndOf x with
   |some n=>some (.tup [.agg [.fl (g ⟨n.k,etaF n.f,0,⟨⟨p0,p1⟩,⟨p2,p3⟩,⟨p4,p5⟩⟩,⟨⟨r0,r1⟩,⟨r2,r3⟩,⟨r4,r5⟩⟩⟩).1.lo,.fl (g ⟨n.k,etaF n.f,0,⟨⟨p0,p1⟩,⟨p2,p3⟩,⟨p4,p5⟩⟩,⟨⟨r0,r1⟩,⟨r2,r3⟩,⟨r4,r5⟩⟩⟩).1.hi],.si .i64 (g ⟨n.k,etaF n.f,0,⟨⟨p0,p1⟩,⟨p2,p3⟩,⟨p4,p5⟩⟩,⟨⟨r0,r1⟩,⟨r2,r3⟩,⟨r4,r5⟩⟩⟩).2],ds,(decide (n.a=0),true)::(decide (n.b=0),true)::o ⟨n.k,etaF n.f,0,⟨⟨p0,p1⟩,⟨p2,p3⟩,⟨p4,p5⟩⟩,⟨⟨r0,r1⟩,⟨r2,r3⟩,⟨r4,r5⟩⟩⟩)
   |none=>none
 |_,_=>none
def OD(N:Nde):OracleF:=lookO (OCL N.K++ [(66,plainO (kI2 N.D N.dO)),(153,plainO (kDn N.g N.go))])
noncomputable def aC:Code:=bodyOf prog 68
noncomputable def aC0:Code:=seqL aC
noncomputable def aC1:Code:=seqL (seqR aC)
noncomputable def aC2:Code:=seqL (seqL (seqR (seqR aC)))
noncomputable def aBd:Code:=inner (inner (seqR (seqL (seqR (seqR aC)))))
noncomputable def aTl:Code:=seqR (seqR (seqR aC))
theorem aBody:Tryz.f68.body=some aC:=by kernel_rfl
theorem aNt:Tryz.f68.ntmps=48:=by kernel_rfl
theorem aC_cut:aC= .seq aC0 (.seq aC1 (.seq (.seq aC2 (.block 0 (.loop aBd))) aTl)):=by kernel_rfl
def aT(k off len cap:Nat)(cos:I)(lf:SV)(c:SV)(x:Nat->SV):List SV:=
 [.ssl 0 off len cap,.agg [.fl cos.lo,.fl cos.hi],lf,x 3,.p k 0,x 5,.p (k+1) 0,x 7,.ssl (k+2) 0 len len,x 9,x 10,x 11,x 12,x 13,x 14,.ssl 0 off len cap,.si .i64 len,c,
  x 18,x 19,x 20,x 21,x 22,x 23,x 24,x 25,x 26,x 27,x 28,x 29,x 30,x 31,x 32,x 33,x 34,x 35,x 36,x 37,x 38,x 39,x 40,x 41,x 42,x 43,x 44,x 45,x 46,x 47]
def vcB(v:V3):Blk:=⟨35,[.fl v.x.lo,.fl v.x.hi,.fl v.y.lo,.fl v.y.hi,.fl v.z.lo,.fl v.z.hi],.ex⟩
def aTail(cos:I)(lc:List SV):List Blk:=[⟨33,[.fl cos.lo,.fl cos.hi],.ex⟩,⟨61,Ch.zero.cells,.ex⟩,⟨61,lc,.num⟩]
end Go.Proofs.YtejcekikbnlllaaGreat
namespace Rx
open Go Go.RowKit
section
variable {P:Program}
theorem RunsP.seq_ret{c d:Code}{s:St}{Φ:St->Prop}(h:RunsP P c s .ret Φ):RunsP P (.seq c d) s .ret Φ:=by intro m a w Q hs hq;exact wp_seq (h m a w _ hs fun s1 m' a' w' h1 hs' hg=>hq s1 m' a' w' h1 hs' hg)
theorem RoundsP.ret{n:Nat}{c:Code}{s:St}{Φ:St->Prop}(h:RunsP P c s .ret Φ):RoundsP P c (n+1) s .ret Φ:=by intro m a w Q hs hq;rw[rounds_succ];exact h m a w _ hs fun s1 m' a' w' h1 hs' hg=>hq s1 m' a' w' h1 hs' hg
theorem loop_inv{body:Code}{id:Nat}{Φ:St->Prop}{α:Type}(S:Nat->α->St)(I:Nat->α->Prop)(n:Nat)
  (hr:∀i x,i<n->I i x->RunsP P body (S i x) .normal (fun t=>∃x',I (i+1) x'/\t=S (i+1) x')) (he:∀x,I n x->RunsP P body (S n x) (.exit id) Φ) (x:α) (h0:I 0 x):RunsP P (.block id (.loop body)) (S 0 x) .normal Φ:=by
 refine RunsP.block (RunsP.loop (n:=n+1) ?_);have key:∀j i x,i+j=n->I i x->RoundsP P body (j+1) (S i x) (.exit id) Φ:=by
  intro j
  induction j with
  | zero =>
    intro i x h hi;rw[Nat.add_zero]at h;subst h;exact RoundsP.out (he x hi)
  | succ j ih =>
    intro i x h hi;refine RoundsP.next (hr i x (by omega) hi) fun t ⟨x',hx,ht⟩=> ?_;subst ht;exact ih (i+1) x' (by omega) hx
 exact key n 0 x (by omega) h0
theorem loop_ret{body:Code}{id:Nat}{Φ:St->Prop}{α:Type}(S:Nat->α->St)(I:Nat->α->Prop)(n:Nat)
  (hr:∀i x,i<n->I i x->RunsP P body (S i x) .normal (fun t=>∃x',I (i+1) x'/\t=S (i+1) x')) (he:∀x,I n x->RunsP P body (S n x) .ret Φ) (x:α) (h0:I 0 x):RunsP P (.block id (.loop body)) (S 0 x) .ret Φ:=by
 refine RunsP.block_ret (RunsP.loop (n:=n+1) ?_);have key:∀j i x,i+j=n->I i x->RoundsP P body (j+1) (S i x) .ret Φ:=by
  intro j
  induction j with
  | zero =>
    intro i x h hi;rw[Nat.add_zero]at h;subst h;exact RoundsP.ret (he x hi)
  | succ j ih =>
    intro i x h hi;refine RoundsP.next (hr i x (by omega) hi) fun t ⟨x',hx,ht⟩=> ?_;subst ht;exact ih (i+1) x' (by omega) hx
 exact key n 0 x (by omega) h0
end
def Blk.exact(b:Blk):Bool:=match b.k with
 | .ex=>true
 | .num=>true
 | .ro _=>true
 |_=>false
theorem BlkAt.cells{m:Nms}{w:World}{r:Nat}{b:Blk}(hx:b.exact=true)(h:BlkAt m w r b):∃cv,dens m b.cells=some cv/\w.heap[r]? =some (.cells cv.toArray b.elem b.k.z):=by
 obtain⟨e,cs,k⟩:=b;cases k<;>first|exact h.ex|exact h.num|(cases hx;done)|skip
 obtain⟨cv,sp,d,hh,k⟩:=h rfl;have k':sp=[]:=k.1;subst k';exact⟨cv,d,by simpa using hh⟩
theorem Goes.reads{m m':Nms}{M rest:List Blk}{w w':World}(hx:∀b∈M,b.exact=true)(hM:MemAt m w M)(hg:Goes m M w m' (M++rest) w')(hM':MemAt m' w' (M++rest)):Below w.heap.size w w':=by
 refine⟨hg.fr.os,hg.fr.tape,hg.fr.output,hg.fr.size,fun k hk=> ?_⟩;by_cases hn:∃n,m n=some k/\liveM M n
 ·obtain⟨n,hn,b,hb,_⟩:=hn;have hb':(M++rest)[n]? =some b:=by rw[List.getElem?_append_left (List.getElem?_eq_some_iff.1 hb).1];exact hb
  obtain⟨r,hr,hat⟩:=hM.blk n b hb;obtain⟨r',hr',hat'⟩:=hM'.blk n b hb';rw[hn]at hr;cases hr;rw[hg.ext.n n k hn]at hr';cases hr';have hq:=hx b (List.mem_of_getElem? hb);obtain⟨cv,d,h1⟩:=hat.cells hq;obtain⟨cv',d',h2⟩:=hat'.cells hq;rw[dens_ext hg.ext d]at d';cases d';rw[h1,h2]
 ·exact hg.fr.block k hk hn
theorem row_cells{cv vc:List Value}{off:Nat}{cs:List SV}(hc:plains cs=some vc)(ht:(cv.drop off).take vc.length=vc):∃cells,plains cells=some cv/\CellsAt cells off cs:=by
 have hl:=plains_len hc;have hcv:cv=cv.take off++(vc++(cv.drop off).drop vc.length):=by
  conv=>lhs;rw[<-List.take_append_drop off cv,<-List.take_append_drop vc.length (cv.drop off),ht]
 have hp:plains ((cv.take off).map SV.o++(cs++((cv.drop off).drop vc.length).map SV.o))=some cv:=by have:=plains_app (plains_o (cv.take off)) (plains_app hc (plains_o ((cv.drop off).drop vc.length)));rw[<-hcv]at this;exact this
 refine⟨_,hp,fun j x hj=> ?_⟩;have hjl:j<cs.length:=by
  rcases Nat.lt_or_ge j cs.length with h'|h'
  ·exact h'
  ·rw[List.getElem?_eq_none h']at hj;cases hj
 have hoff:off<=cv.length:=by
  rcases Nat.le_total off cv.length with h'|h'
  ·exact h'
  ·have:vc=[]:=by rw[<-ht,List.drop_eq_nil_of_le h'];simp
   rw[this]at hl;simp at hl;omega
 have h1:((cv.take off).map SV.o).length=off:=by simp;omega
 rw[List.getElem?_append_right (by omega),h1,show off+j-off=j by omega,List.getElem?_append_left hjl];exact hj
theorem MemAt.row{m:Nms}{w:World}{b:Blk}{rest:List Blk}{off n:Nat}{vc:List Value}(hM:MemAt m w (b::rest))(hw:b.rw=true)(hc:plains ((b.cells.drop off).take n)=some vc) :
  ∃cells,MemAt m w (⟨b.elem,cells,.num⟩::rest)/\CellsAt cells off ((b.cells.drop off).take n)/\idsLts 0 cells=true:=by
 obtain⟨r,hr,hat⟩:=hM.blk 0 b rfl;have hl:=(rw_ok hw).1;obtain⟨cv,sp,d1,hh,_⟩:=hat hl;rw[(rw_ok hw).2]at hh;have h10:=dens_plains (m:=m) hc;rw[dens_take (dens_drop d1 _) _]at h10;have h11:=Option.some.inj h10;have hrow:((cv++sp).drop off).take vc.length=vc:=by
  have hlen:vc.length=min n (cv.length-off):=by rw[<-h11];simp
  rw[List.drop_append,List.take_append,hlen,List.length_drop];rw[show min n (cv.length-off)-(cv.length-off)=0 by omega,List.take_zero,List.append_nil];rw[<-h11,List.take_eq_take_iff,List.length_drop];omega
 obtain⟨cells,hp,hca⟩:=row_cells hc hrow;refine⟨cells,⟨hM.ok,fun n n' q l1 l2=>hM.inj n n' q ?_ ?_,fun j c hj=> ?_,fun j q hq=> ?_⟩,hca,plains_ids hp⟩
 ·obtain⟨c,hc1,hc2⟩:=l1;cases n with
  |zero=>exact⟨b,rfl,hl⟩
  |succ n=>exact⟨c,hc1,hc2⟩
 ·obtain⟨c,hc1,hc2⟩:=l2;cases n' with
  |zero=>exact⟨b,rfl,hl⟩
  |succ n=>exact⟨c,hc1,hc2⟩
 ·cases j with
  | zero =>
    simp only[List.getElem?_cons_zero,sIz]at hj;subst hj;exact⟨r,hr,BlkAt.mk_num (plains_ids hp) (dens_plains hp) hh⟩
  |succ j=>exact hM.blk (j+1) c hj
 ·exact hM.dom j q hq
abbrev RdsF:=List SV->Nat->List SV->List Blk->Dec->Option (SV×Dec×Obs)
def RdsOk(P:Program)(g:FuncId)(F:RdsF):Prop:=
 ∀cs len l rest ds x ds' ob,F cs len l rest ds=some (x,ds',ob)->ObsOk ob->(∃vc,plains cs=some vc)/\∃v,plain x=some v/\
  ∀(m:Nms)(w:World)(e:TypeId)(cells:List SV)(off cap:Nat)(vs:List Value),MemAt m w (⟨e,cells,.num⟩::rest)->CellsAt cells off cs->idsLts 0 cells=true->dens m (.ssl 0 off len cap::l)=some vs->
   Calls P g vs.toArray w fun e w'=>e= .returned v/\Below w.heap.size w w'
def kRds(size:Nat)(F:RdsF):OF:=fun args M ds=>
 match args,M with
 | s :: l, b :: rest => match slA s with
   | some (0, off, len) => match b.rw with
     |true=>(F ((b.cells.drop off).take (len*size)) len l rest ds).map fun q=>(q.1,b::rest,q.2.1,q.2.2)
     |false=>none
   |_=>none
 |_,_=>none
theorem RdsOk.of{P:Program}{g:FuncId}{F:RdsF}{size:Nat}(h:RdsOk P g F):OfOk P g (kRds size F):=by
 intro args M ds x M' ds' ob hk ho m w vs hvs hM;unfold kRds at hk;split at hk
 ·rename_i s l b rest;split at hk
  ·rename_i off len hs;split at hk
   ·rename_i hl;simp only[mIz,pIz]at hk;obtain⟨⟨y,d,o⟩,hF,rfl,rfl,rfl,rfl⟩:=hk;obtain⟨⟨vc,hc⟩,v,hv,hcall⟩:=h _ _ _ _ _ _ _ _ hF ho;obtain⟨v0,us,h5,h6,rfl⟩:=dens_cons_some.1 hvs;obtain⟨r,cap,hr,rfl⟩:=slA_ok hs h5;obtain⟨cells,hM',hca,hid⟩:=hM.row hl hc;exact Calls.mono (hcall m w b.elem cells off cap _ hM' hca hid (dens_cons (by simp only[den,hr,Option.map_some]) h6)) fun e w' ⟨he,hb⟩=>⟨m,v,he,CallPost.same hM (den_plain hv) hb⟩
   ·cases hk
  ·cases hk
 ·cases hk
theorem rds_of_runs{P:Program}{g:FuncId}{fn:Func}{c:Code}(hg:P.funcs[g]? =some fn)(hb:fn.body=some c){l:List SV}{rest:List Blk}{len:Nat}{x:SV}{v:Value}(hx:plain x=some v)(hr:∀b∈rest,b.exact=true){d:Dec}{m:Nms}{w:World}{e:TypeId}{cells:List SV}{off cap:Nat}{vs:List Value}
  (h:RunsP P c ⟨(.ssl 0 off len cap::l)++List.replicate (fn.ntmps-(l.length+1)) (.tup []),⟨e,cells,.num⟩::rest,d,[]⟩ .ret (fun t=>resultS P fn t=some x/\∃more,t.M=(⟨e,cells,.num⟩::rest)++more))
  (hM:MemAt m w (⟨e,cells,.num⟩::rest)) (hd:dens m (.ssl 0 off len cap::l)=some vs):Calls P g vs.toArray w fun e w'=>e= .returned v/\Below w.heap.size w w':=by
 refine Calls.mono (RunsP.call hg hb (args:= .ssl 0 off len cap::l) (x:=fun _=>x) h (fun t ht=>ht.1) hd hM) fun ex w' ⟨t,m',u,⟨_,more,hmo⟩,he,hv,hM',hgo⟩=> ?_;rw[den_plain hx]at hv;have:=Option.some.inj hv;subst this;rw[hmo]at hM' hgo;refine⟨he,Goes.reads (fun b hb=> ?_) hM hgo hM'⟩;rcases List.mem_cons.1 hb with h1|h1
 ·subst h1;rfl
 ·exact hr b h1
end Rx
namespace Bu
open Rx Go
def chL(f:(Nat->Ch)->Nat->Ch×Int):Nat->List Ch
 |0=>[]
 |n+1=>chL f n++ [(f (fun j=>(chL f n).getD j Ch.zero) n).1]
def chF(f:(Nat->Ch)->Nat->Ch×Int)(i:Nat):Ch:=(f (fun j=>(chL f i).getD j Ch.zero) i).1
theorem chL_len(f:(Nat->Ch)->Nat->Ch×Int):∀n,(chL f n).length=n
 |0=>rfl
 |n+1=>by unfold chL;rw[List.length_append,chL_len f n];rfl
theorem chL_get(f:(Nat->Ch)->Nat->Ch×Int):∀{n j:Nat},j<n->(chL f n).getD j Ch.zero=chF f j
 | n + 1, j, h => by
   unfold chL;rcases Nat.lt_or_ge j n with h'|h'
   ·rw[List.getD_eq_getElem?_getD,List.getElem?_append_left (by rw[chL_len];exact h'),<-List.getD_eq_getElem?_getD,chL_get f h']
   ·have:j=n:=by omega
    subst this;rw[List.getD_eq_getElem?_getD,List.getElem?_append_right (by rw[chL_len];exact Nat.le_refl _),chL_len,Nat.sub_self];rfl
def mixC(K:Kk)(w:F)(a b:Ch):Ch×Int:=
 (⟨(mixK K 0 w a.p b.p).1,(mixK K (mixK K 0 w a.p b.p).2 w a.m b.m).1⟩,(mixK K (mixK K 0 w a.p b.p).2 w a.m b.m).2)
def lessK(K:Kk)(o:I):I×Int:=K.sub (K.num 0 one_).2 (K.num 0 one_).1 o
def coatC(K:Kk)(o:I)(a:Ch):Ch×Int:=
 let s:=lessK K o
 let x:=K.mul s.2 s.1 a.p
 let y:=K.mul x.2 s.1 a.m
 let z:=K.add y.2 o y.1
 (⟨x.1,z.1⟩,z.2)
def nodC(N:Nde)(cos:I)(lf:Nd->I×Int)(l:Nat->Ch)(n:Nd):Ch×Int:=
 bif decide (n.k=5)then mixC N.K (n.f 15) (l n.a.toNat) (l n.b.toNat)
 else bif decide (n.k=6)then coatC N.K (N.D cos ⟨n.f 14,n.f 14⟩).1 (l n.a.toNat)
 else(⟨(lf n).1,Ch.zero.m⟩,(lf n).2)
def obsB(o:Obs):Bool:=o.all fun p=>p.1==p.2
theorem obsB_ok{o:Obs}(h:obsB o=true):ObsOk o:=fun p hp=>by
 have:=List.all_eq_true.1 h p hp
 simpa using this
def nodB(N:Nde)(cos:I)(lf:Nd->I×Int)(lo:Nd->Obs)(l:Nat->Ch)(n:Nd):Bool:=
 (bif decide (n.k=5)then true
 else bif decide (n.k=6)then obsB (N.dO cos ⟨n.f 14,n.f 14⟩)&&decide ((N.D cos ⟨n.f 14,n.f 14⟩).2=0)
 else obsB (lo n))&&decide ((nodC N cos lf l n).2=0)
def allF(N:Nde)(cos:I)(lf:Nd->I×Int)(cs:List SV):(Nat->Ch)->Nat->Ch×Int:=fun l i=>nodC N cos lf l (ndR cs (i*19))
def allB(N:Nde)(cos:I)(lf:Nd->I×Int)(lo:Nd->Obs)(cs:List SV)(len:Nat):Bool:=
 (List.range len).all fun i=>nodB N cos lf lo (fun j=>(chL (allF N cos lf cs) i).getD j Ch.zero) (ndR cs (i*19))
theorem allB_at{N:Nde}{cos:I}{lf:Nd->I×Int}{lo:Nd->Obs}{cs:List SV}{len:Nat}(h:allB N cos lf lo cs len=true){i:Nat}(hi:i<len) :
  nodB N cos lf lo (fun j=>(chL (allF N cos lf cs) i).getD j Ch.zero) (ndR cs (i*19))=true:=List.all_eq_true.1 h i (List.mem_range.2 hi)
theorem set_get{l:List SV}{off k:Nat}{x:SV}(h:off<l.length):(l.set off x)[k]? =if k=off then some x else l[k]? :=by
 rw[List.getElem?_set];by_cases e:off=k
 ·subst e;simp[h]
 ·rw[if_neg e,if_neg (fun h=>e h.symm)]
theorem putRow_get:∀{l cells:List SV}{off k:Nat},off+l.length<=cells.length->(putRow cells off l)[k]? =if off<=k/\k<off+l.length then l[k-off]? else cells[k]?
 | [], cells, off, k, _ => by unfold putRow;rw[if_neg (by simp)]
 | x :: l, cells, off, k, h => by
   simp only[List.length_cons]at h;unfold putRow;rw[putRow_get (by rw[List.length_set];omega),set_get (by omega)];simp only[List.length_cons];by_cases h1:k=off
   ·subst h1;rw[if_neg (by omega),if_pos rfl,if_pos (by omega)];simp
   ·by_cases h2:off+1<=k/\k<off+1+l.length
    ·rw[if_pos h2,if_pos (by omega),show k-off=(k-(off+1))+1 by omega];simp
    ·rw[if_neg h2,if_neg h1,if_neg (by omega)]
structure ChRow (c:Nat->Ch) (len i:Nat) (lc:List SV):Prop where
 l:lc.length=len*4
 d:idsLts 0 lc=true
 c:∀j,j<i->CellsAt lc (j*4) (c j).cells
theorem CellsAt.of{cells cs:List SV}{off:Nat}(h:∀j,j<cs.length->cells[off+j]? =cs[j]?):CellsAt cells off cs:=fun j x hx=>by rw[h j (List.getElem?_eq_some_iff.1 hx).1];exact hx
theorem ChRow.next{c:Nat->Ch}{len i:Nat}{lc:List SV}(h:ChRow c len i lc)(hi:i<len):ChRow c len (i+1) (putRow lc (i*4) (c i).cells):=by
 have hl:(c i).cells.length=4:=rfl;have hb:i*4+(c i).cells.length<=lc.length:=by rw[h.l,hl];omega
 refine⟨by rw[putRow_length];exact h.l,idsLts_put h.d rfl,fun j hj=>CellsAt.of fun k hk=> ?_⟩;have hlj:(c j).cells.length=4:=rfl;rw[putRow_get hb];rcases Nat.lt_or_ge j i with h1|h1
 ·rw[if_neg (by rw[hl];omega)];have h2:(c j).cells[k]? =some (c j).cells[k]:=List.getElem?_eq_getElem hk;rw[h2];exact h.c j h1 k _ h2
 ·have:j=i:=by omega
  subst this;rw[if_pos (by omega),show j*4+k-j*4=k by omega]
def chCK:List CK:=[.f,.f,.f,.f]
theorem ch_at{lc:List SV}{o:Nat}{c:Ch}(h:CellsAt lc o c.cells):chAt lc o=c/\ckAll lc o chCK=true:=by
 have h0:=h 0 _ rfl;have h1:=h 1 _ rfl;have h2:=h 2 _ rfl;have h3:=h 3 _ rfl;rw[Nat.add_zero]at h0;refine⟨?_,?_⟩
 ·unfold chAt flAt;rw[h0,h1,h2,h3]
 ·unfold chCK ckAll ckAll ckAll ckAll ckAll ckOk;rw[show o+1+1=o+2 from rfl,show o+2+1=o+3 from rfl,h0,h1,h2,h3];rfl
end Bu
namespace Go.Proofs.YtejcekikbnlllaaGreat
open Go.RowKit Bu Rx
def lfA:SV:= .fn (.func 152) [] [.p 1 0,.p 2 0]
def preA(e:TypeId)(cells:List SV)(v u:V3):List Blk:=[⟨e,cells,.num⟩,vcB v,vcB u]
def aS(pre:List Blk)(k off len cap:Nat)(cos:I)(lf:SV)(c:SV)(x:Nat->SV)(lc:List SV)(d:Dec):St:=⟨aT k off len cap cos lf c x,pre++aTail cos lc,d,[]⟩
def lfR(g:Lf->I×Int)(v u:V3)(n:Nd):I×Int:=g ⟨n.k,etaF n.f,0,v,u⟩
def lfRo(o:Lf->Obs)(v u:V3)(n:Nd):Obs:=(decide (n.a=0),true)::(decide (n.b=0),true)::o ⟨n.k,etaF n.f,0,v,u⟩
def chsAt(lc:List SV)(j:Nat):Ch:=chAt lc (0+j*4)
section
variable (N:Nde) (e:TypeId) (cells lc:List SV) (v u:V3) (off len cap:Nat) (cos:I) (i:Int) (x:Nat->SV)
def aHdO(i:Int):Obs:=[(slB 0 i len,true),(ckAll cells (off+i.toNat*19) ndCK,true),(ixB i len,true),(decide (i<len),true)]
noncomputable abbrev aA(d:List Bool):St:=aft prog EG (OD N) 60 aBd (aS (preA e cells v u) 3 off len cap cos lfA (.si .i64 i) x lc (some d))
theorem aLm:Lands prog EG (OD N) 60 aBd (aS (preA e cells v u) 3 off len cap cos lfA (.si .i64 i) x lc (some [true,true,false])) .normal:=by unfold Lands;kernel_rfl
theorem aLc:Lands prog EG (OD N) 60 aBd (aS (preA e cells v u) 3 off len cap cos lfA (.si .i64 i) x lc (some [true,false,true,false,false])) .normal:=by unfold Lands;kernel_rfl
theorem aLl:Lands prog EG (OD N) 60 aBd (aS (preA e cells v u) 3 off len cap cos lfA (.si .i64 i) x lc (some [true,false,false,false])) .normal:=by unfold Lands;kernel_rfl
theorem aOm:(aA N e cells lc v u off len cap cos i x [true,true,false]).ob=
  [(decide (0+i.toNat*4+4<=lc.length),true),(ixB i len,true),((mixC N.K ((ndR cells (off+i.toNat*19)).f 15) (chsAt lc (ndR cells (off+i.toNat*19)).a.toNat) (chsAt lc (ndR cells (off+i.toNat*19)).b.toNat)).2 != 0,false),(ckAll lc (0+(ndR cells (off+i.toNat*19)).b.toNat*4) chCK,true),(ixB (ndR cells (off+i.toNat*19)).b (i.toNat-0),true),(ckAll lc (0+(ndR cells (off+i.toNat*19)).a.toNat*4) chCK,true),(ixB (ndR cells (off+i.toNat*19)).a (i.toNat-0),true),(decide ((ndR cells (off+i.toNat*19)).k=5),true)]++aHdO cells off len i:=by kernel_rfl
theorem aOc:(aA N e cells lc v u off len cap cos i x [true,false,true,false,false]).ob=
  [(decide (0+i.toNat*4+4<=lc.length),true),(ixB i len,true),((coatC N.K (N.D cos ⟨(ndR cells (off+i.toNat*19)).f 14,(ndR cells (off+i.toNat*19)).f 14⟩).1 (chsAt lc (ndR cells (off+i.toNat*19)).a.toNat)).2 != 0,false),(ckAll lc (0+(ndR cells (off+i.toNat*19)).a.toNat*4+2) [.f,.f],true),(ixB (ndR cells (off+i.toNat*19)).a (i.toNat-0),true),(ckAll lc (0+(ndR cells (off+i.toNat*19)).a.toNat*4) [.f,.f],true),(ixB (ndR cells (off+i.toNat*19)).a (i.toNat-0),true),((N.D cos ⟨(ndR cells (off+i.toNat*19)).f 14,(ndR cells (off+i.toNat*19)).f 14⟩).2 != 0,false)]++
   ((N.dO cos ⟨(ndR cells (off+i.toNat*19)).f 14,(ndR cells (off+i.toNat*19)).f 14⟩++ [(decide ((ndR cells (off+i.toNat*19)).k=6),true),(decide ((ndR cells (off+i.toNat*19)).k=5),false)])++aHdO cells off len i):=by kernel_rfl
theorem aOl:(aA N e cells lc v u off len cap cos i x [true,false,false,false]).ob=
  [(decide (0+i.toNat*4+4<=lc.length),true),(ixB i len,true),((lfR N.g v u (ndR cells (off+i.toNat*19))).2 != 0,false)]++(((lfRo N.go v u (ndR cells (off+i.toNat*19))++ [])++ [(decide ((ndR cells (off+i.toNat*19)).k=6),false),(decide ((ndR cells (off+i.toNat*19)).k=5),false)])++aHdO cells off len i):=by kernel_rfl
noncomputable def aXm(vv:Nat->Value):Nat->SV:=fun j=>((aA N e cells lc v u off len cap cos i x [true,true,false]).cut 6 vv).T.getD j .np
theorem aCm(vv:Nat->Value):(aA N e cells lc v u off len cap cos i x [true,true,false]).cut 6 vv=⟨(aS (preA e cells v u) 3 off len cap cos lfA (.si .i64 (IntKind.i64.wrap (i+1))) (aXm N e cells lc v u off len cap cos i x vv) (putRow lc (0+i.toNat*4) (mixC N.K ((ndR cells (off+i.toNat*19)).f 15) (chsAt lc (ndR cells (off+i.toNat*19)).a.toNat) (chsAt lc (ndR cells (off+i.toNat*19)).b.toNat)).1.cells) none).T,preA e cells v u++aTail cos (putRow lc (0+i.toNat*4) (mixC N.K ((ndR cells (off+i.toNat*19)).f 15) (chsAt lc (ndR cells (off+i.toNat*19)).a.toNat) (chsAt lc (ndR cells (off+i.toNat*19)).b.toNat)).1.cells),some [],(aA N e cells lc v u off len cap cos i x [true,true,false]).ob⟩:=by kernel_rfl
noncomputable def aXc(vv:Nat->Value):Nat->SV:=fun j=>((aA N e cells lc v u off len cap cos i x [true,false,true,false,false]).cut 6 vv).T.getD j .np
theorem aCc(vv:Nat->Value):(aA N e cells lc v u off len cap cos i x [true,false,true,false,false]).cut 6 vv=⟨(aS (preA e cells v u) 3 off len cap cos lfA (.si .i64 (IntKind.i64.wrap (i+1))) (aXc N e cells lc v u off len cap cos i x vv) (putRow lc (0+i.toNat*4) (coatC N.K (N.D cos ⟨(ndR cells (off+i.toNat*19)).f 14,(ndR cells (off+i.toNat*19)).f 14⟩).1 (chsAt lc (ndR cells (off+i.toNat*19)).a.toNat)).1.cells) none).T,preA e cells v u++aTail cos (putRow lc (0+i.toNat*4) (coatC N.K (N.D cos ⟨(ndR cells (off+i.toNat*19)).f 14,(ndR cells (off+i.toNat*19)).f 14⟩).1 (chsAt lc (ndR cells (off+i.toNat*19)).a.toNat)).1.cells),some [],(aA N e cells lc v u off len cap cos i x [true,false,true,false,false]).ob⟩:=by kernel_rfl
noncomputable def aXl(vv:Nat->Value):Nat->SV:=fun j=>((aA N e cells lc v u off len cap cos i x [true,false,false,false]).cut 6 vv).T.getD j .np
theorem aCl(vv:Nat->Value):(aA N e cells lc v u off len cap cos i x [true,false,false,false]).cut 6 vv=⟨(aS (preA e cells v u) 3 off len cap cos lfA (.si .i64 (IntKind.i64.wrap (i+1))) (aXl N e cells lc v u off len cap cos i x vv) (putRow lc (0+i.toNat*4) (Ch.mk (lfR N.g v u (ndR cells (off+i.toNat*19))).1 Ch.zero.m).cells) none).T,preA e cells v u++aTail cos (putRow lc (0+i.toNat*4) (Ch.mk (lfR N.g v u (ndR cells (off+i.toNat*19))).1 Ch.zero.m).cells),some [],(aA N e cells lc v u off len cap cos i x [true,false,false,false]).ob⟩:=by kernel_rfl
theorem eAE:Lands prog EG (OD N) 60 aBd (aS (preA e cells v u) 3 off len cap cos lfA (.si .i64 i) x lc (some [false])) (.exit 0):=by unfold Lands;kernel_rfl
theorem eAEo:aft prog EG (OD N) 60 aBd (aS (preA e cells v u) 3 off len cap cos lfA (.si .i64 i) x lc (some [false]))=⟨aT 3 off len cap cos lfA (.si .i64 i) (fun j=>bif Nat.beq j 18 then .b false else x j),(preA e cells v u)++aTail cos lc,some [],[(decide (i<len),false)]⟩:=by kernel_rfl
theorem eAT:Lands prog EG (OD N) 60 aTl (aS (preA e cells v u) 3 off len cap cos lfA (.si .i64 i) x lc none) .ret:=by unfold Lands;kernel_rfl
theorem eATo:(aft prog EG (OD N) 60 aTl (aS (preA e cells v u) 3 off len cap cos lfA (.si .i64 i) x lc none)).ob=[(ckAll lc (0+(IntKind.i64.wrap ((len:Int)-1)).toNat*4) chCK,true),(ixB (IntKind.i64.wrap ((len:Int)-1)) len,true)]:=by kernel_rfl
theorem eATr:resultS prog Tryz.f68 (aft prog EG (OD N) 60 aTl (aS (preA e cells v u) 3 off len cap cos lfA (.si .i64 i) x lc none))=some (.tup [(chsAt lc (IntKind.i64.wrap ((len:Int)-1)).toNat).sv,.i .i64 0]):=by kernel_rfl
theorem eATM:∃more,(aft prog EG (OD N) 60 aTl (aS (preA e cells v u) 3 off len cap cos lfA (.si .i64 i) x lc none)).M=(preA e cells v u)++more:=⟨[⟨33,[.fl cos.lo,.fl cos.hi],.ex⟩,⟨61,(chsAt lc (IntKind.i64.wrap ((len:Int)-1)).toNat).cells,.ex⟩,⟨61,lc,.num⟩],by kernel_rfl⟩
end
end Go.Proofs.YtejcekikbnlllaaGreat
namespace Rx
open Go Go.RowKit
def Nms.sel(m:Nms)(ids:List Nat):Nms:=⟨fun j=>(ids[j]?).bind fun n=>m n,m.c⟩
theorem sel_some{m:Nms}{ids:List Nat}{j n r:Nat}(h:ids[j]? =some n)(hr:m n=some r):m.sel ids j=some r:=by show(ids[j]?).bind _=_;rw[h];exact hr
theorem sel_inv{m:Nms}{ids:List Nat}{j r:Nat}(h:m.sel ids j=some r):∃n,ids[j]? =some n/\m n=some r:=Option.bind_eq_some_iff.1 h
def hos(ρ:Nat->Option Nat)(v:Nat->Value):Nat->List SV->List SV
 |_,[]=>[]
 | j, x :: l => (match ren ρ x with
   |some y=>y
   |none=> .o (v j))::hos ρ v (j+1) l
theorem hos_ok{m m':Nms}{ρ:Nat->Option Nat}{v:Nat->Value}(hρ:∀n k,ρ n=some k->∀r,m n=some r->m' k=some r/\m'.c r=m.c r):∀{T:List SV}{vs:List Value}{j:Nat},dens m T=some vs->(∀i u,vs[i]? =some u->v (j+i)=u)->dens m' (hos ρ v j T)=some vs
 | [],vs,j,h,_=>by simp[dens]at h;subst h;simp[hos,dens]
 | x :: l, vs, j, h, hv => by
   obtain⟨u,us,a,b,rfl⟩:=dens_cons_some.1 h;have ih:=hos_ok hρ (v:=v) (j:=j+1) b (fun i u hu=>by rw[show j+1+i=j+(i+1) by omega];exact hv (i+1) u (by simpa using hu));unfold hos;refine dens_cons ?_ ih;split
   ·rename_i y hy;exact ren_ok hρ hy a
   ·have:=hv 0 u (by simp);rw[Nat.add_zero]at this;simp only[den,this]
def selM(M:List Blk)(ids:List Nat):Option (List Blk):=ids.mapM fun n=>(M[n]?).bind fun(b:Blk)=>(b.ren (posOf ids)).map fun cs=>(⟨b.elem,cs,b.k⟩:Blk)
def St.sel(s:St)(ids:List Nat)(M':List Blk)(v:Nat->Value):St:=⟨hos (posOf ids) v 0 s.T,M',s.ds,s.ob⟩
theorem selM_get{M M':List Blk}{ids:List Nat}(h:selM M ids=some M'):M'.length=ids.length/\∀(j:Nat)(b':Blk),M'[j]? =some b'->∃(n:Nat)(b:Blk)(cs:List SV),ids[j]? =some n/\M[n]? =some b/\b.ren (posOf ids)=some cs/\b'=⟨b.elem,cs,b.k⟩:=by
 obtain⟨h1,h2⟩:=mapM_get h;refine⟨h1,fun j b' hb=> ?_⟩;have hj:j<ids.length:=by have:=(List.getElem?_eq_some_iff.1 hb).1;omega
 obtain⟨b2,h3,h4⟩:=h2 j ids[j] (List.getElem?_eq_getElem hj);rw[hb]at h4;simp only[sIz]at h4;subst h4;simp only[Option.bind_eq_some_iff,mIz]at h3;obtain⟨b,h5,cs,h6,h7⟩:=h3;exact⟨_,b,cs,List.getElem?_eq_getElem hj,h5,h6,h7.symm⟩
theorem live_sel{M M':List Blk}{ids:List Nat}{j:Nat}(h:selM M ids=some M')(hl:liveM M' j):∃n,ids[j]? =some n/\liveM M n:=by obtain⟨b',h1,h2⟩:=hl;obtain⟨n,b,cs,h3,h4,h5,rfl⟩:=(selM_get h).2 j b' h1;exact⟨n,h3,b,h4,h2⟩
theorem StAt.sel{m:Nms}{s:St}{a:Act}{w:World}{ids:List Nat}{M':List Blk}(h:StAt m s a w)(hn:nodupB ids=true)(hM:selM s.M ids=some M'):StAt (m.sel ids) (s.sel ids M' (fun j=>a.tmps.getD j undef)) a w:=by
 have hpos:∀n k,posOf ids n=some k->∀r,m n=some r->m.sel ids k=some r/\(m.sel ids).c r=m.c r:=fun n k hk r hr=>⟨sel_some (posOf_ok hk) hr,rfl⟩;refine⟨hos_ok hpos h.tm (fun i u hu=> ?_),h.df,⟨⟨fun j r hr=> ?_⟩,fun j j' r l1 l2 h1 h2=> ?_,fun j b' hb=> ?_,fun j r hr=> ?_⟩⟩
 ·rw[Nat.zero_add];have hu':a.tmps[i]? =some u:=by simpa using hu
  simp[Array.getD_eq_getD_getElem?,hu']
 ·obtain⟨n,_,hr'⟩:=sel_inv hr;exact h.mem.ok.lt n r hr'
 ·obtain⟨n,a1,a2⟩:=sel_inv h1;obtain⟨n',b1,b2⟩:=sel_inv h2;obtain⟨n2,c1,c2⟩:=live_sel hM l1;obtain⟨n3,d1,d2⟩:=live_sel hM l2;rw[a1]at c1;rw[b1]at d1;cases c1;cases d1;have e:=h.mem.inj _ _ r c2 d2 a2 b2;subst e;exact nodupB_ok hn a1 b1
 ·obtain⟨n,b,cs,h1,h2,h3,rfl⟩:=(selM_get hM).2 j b' hb;obtain⟨r,hr,hat⟩:=h.mem.blk n b h2;refine⟨r,sel_some h1 hr,fun hl=> ?_⟩;obtain⟨cv,sp,d,hh,k⟩:=hat hl;obtain⟨d',k'⟩:=Blk.ren_ok hpos h3 d k rfl;exact⟨cv,sp,d',hh,k'⟩
 ·obtain⟨n,h1,_⟩:=sel_inv hr;show j<M'.length;rw[(selM_get hM).1];exact(List.getElem?_eq_some_iff.1 h1).1
structure Bs where
 m:Nms
 M:List Blk
 w:World
 mem:MemAt m w M
theorem Goes.sel{B:Bs}{m:Nms}{M M':List Blk}{w:World}{ids:List Nat}(hg:Goes B.m B.M B.w m M w)(hn:nodupB ids=true)(hM:selM M ids=some M')(hk:∀n,n<B.M.length->ids[n]? =some n):Goes B.m B.M B.w (m.sel ids) M' w:=by
 refine⟨⟨fun n r hr=>sel_some (hk n (B.mem.dom n r hr)) (hg.ext.n n r hr),hg.ext.c⟩,hg.fr,fun j r hr=> ?_,fun n r hr hl=> ?_⟩
 ·obtain⟨n,h1,h2⟩:=sel_inv hr;rcases hg.new n r h2 with h3|h3
  ·have:=nodupB_ok hn h1 (hk n (B.mem.dom n r h3));subst this;exact .inl h3
  ·exact .inr h3
 ·obtain⟨n',h1,h2⟩:=live_sel hM hl;rw[hk n (B.mem.dom n r hr)]at h1;cases h1;exact hg.dd n r hr h2
def RunsB(P:Program)(B:Bs)(c:Code)(s:St)(ex:Ex)(Φ:St->Prop):Prop:=
 ∀m a w(Q:Exit->Act->World->Prop),StAt m s a w->Goes B.m B.M B.w m s.M w->(∀s' m' a' w',Φ s'->StAt m' s' a' w'->Goes B.m B.M B.w m' s'.M w'->Q (exOf ex) a' w')->c.wp P Q a w
def RoundsB(P:Program)(B:Bs)(body:Code)(n:Nat)(s:St)(ex:Ex)(Φ:St->Prop):Prop:=
 ∀m a w(Q:Exit->Act->World->Prop),StAt m s a w->Goes B.m B.M B.w m s.M w->(∀s' m' a' w',Φ s'->StAt m' s' a' w'->Goes B.m B.M B.w m' s'.M w'->Q (exOf ex) a' w')->Code.rounds P body Q n a w
section
variable {P:Program} {B:Bs}
theorem RunsP.bs{c:Code}{s:St}{ex:Ex}{Φ:St->Prop}(h:RunsP P c s ex Φ):RunsB P B c s ex Φ:=
 fun m a w Q hs hg hq=>h m a w Q hs fun s' m' a' w' h1 h2 hg'=>hq s' m' a' w' h1 h2 (hg.trans hg')
theorem RunsB.mono{c:Code}{s:St}{ex:Ex}{Φ Ψ:St->Prop}(h:RunsB P B c s ex Φ)(k:∀t,Φ t->Ψ t):RunsB P B c s ex Ψ:=
 fun m a w Q hs hg hq=>h m a w Q hs hg fun s' m' a' w' h1=>hq s' m' a' w' (k s' h1)
theorem RunsB.seq{c d:Code}{s:St}{ex:Ex}{Φ Ψ:St->Prop}(h:RunsB P B c s .normal Φ)(k:∀t,Φ t->RunsB P B d t ex Ψ):RunsB P B (.seq c d) s ex Ψ:=by intro m a w Q hs hg hq;refine wp_seq (h m a w _ hs hg fun s1 m' a' w' h1 hs' hg'=> ?_);exact k s1 h1 m' a' w' Q hs' hg' hq
theorem RunsB.block{id:Nat}{c:Code}{s:St}{Φ:St->Prop}(h:RunsB P B c s (.exit id) Φ):RunsB P B (.block id c) s .normal Φ:=by
 intro m a w Q hs hg hq;refine wp_block (h m a w _ hs hg fun s1 m' a' w' h1 hs' hg'=> ?_);have:=hq s1 m' a' w' h1 hs' hg'
 simpa[exOf,Exit.inBlock]using this
theorem RunsB.loop{n:Nat}{c:Code}{s:St}{ex:Ex}{Φ:St->Prop}(h:RoundsB P B c n s ex Φ):RunsB P B (.loop c) s ex Φ:=
 fun m a w Q hs hg hq=>wp_loop_rounds n (h m a w Q hs hg hq)
theorem RoundsB.next{n:Nat}{c:Code}{s:St}{ex:Ex}{Φ Ψ:St->Prop}(h:RunsB P B c s .normal Φ)(k:∀t,Φ t->RoundsB P B c n t ex Ψ):RoundsB P B c (n+1) s ex Ψ:=by intro m a w Q hs hg hq;rw[rounds_succ];exact h m a w _ hs hg fun s1 m' a' w' h1 hs' hg'=>k s1 h1 m' a' w' Q hs' hg' hq
theorem RoundsB.out{n id:Nat}{c:Code}{s:St}{Φ:St->Prop}(h:RunsB P B c s (.exit id) Φ):RoundsB P B c (n+1) s (.exit id) Φ:=by intro m a w Q hs hg hq;rw[rounds_succ];exact h m a w _ hs hg fun s1 m' a' w' h1 hs' hg'=>hq s1 m' a' w' h1 hs' hg'
theorem RunsB.retell{c:Code}{s t:St}{ex:Ex}{Φ:St->Prop}(h:SameSt s t)(k:RunsB P B c s ex Φ):RunsB P B c t ex Φ:=
 fun m a w Q hs hg hq=>k m a w Q (h.at hs) (by unfold Goes at hg ⊢;rw[h.live];exact hg) hq
theorem RunsB.fin{c:Code}{s:St}{ex:Ex}{Φ Ψ:St->Prop}(k:RunsB P B c s ex Φ)(h:∀t,Φ t->∃u,Ψ u/\SameSt u t):RunsB P B c s ex Ψ:=
 fun m a w Q hs hg hq=>k m a w Q hs hg fun t m' a' w' h1 h2 hg'=>by obtain⟨u,hu,hs⟩:=h t h1;exact hq u m' a' w' hu (hs.at h2) (by unfold Goes at hg' ⊢;rw[hs.live];exact hg')
theorem RunsB.re{c:Code}{T:List SV}{M:List Blk}{d e:Dec}{o p:Obs}{ex:Ex}{Φ:St->Prop}(k:RunsB P B c ⟨T,M,d,o⟩ ex Φ):RunsB P B c ⟨T,M,e,p⟩ ex Φ:=k.retell (SameSt.same T M d e o p)
theorem RunsB.sel{c:Code}{s t:St}{ex:Ex}{Φ:St->Prop}{ids:List Nat}{M':List Blk}(h:RunsB P B c s ex (fun u=>u=t))(hn:nodupB ids=true)(hM:selM t.M ids=some M')(hk:∀n,n<B.M.length->ids[n]? =some n)
  (hΦ:∀v,∃u,Φ u/\SameSt u (t.sel ids M' v)):RunsB P B c s ex Φ:=by
 refine RunsB.fin (Φ:=fun u=>∃v,u=t.sel ids M' v) (fun m a w Q hs hg hq=>h m a w Q hs hg fun t' m' a' w' h1 hst hg'=> ?_) fun u ⟨v,hu⟩=> ?_
 ·subst h1;exact hq _ (m'.sel ids) a' w' ⟨_,rfl⟩ (hst.sel hn hM) (hg'.sel hn hM hk)
 ·subst hu;exact hΦ v
theorem loop_invB{body:Code}{id:Nat}{Φ:St->Prop}{α:Type}(S:Nat->α->St)(I:Nat->α->Prop)(n:Nat)
  (hr:∀i x,i<n->I i x->RunsB P B body (S i x) .normal (fun t=>∃x',I (i+1) x'/\t=S (i+1) x')) (he:∀x,I n x->RunsB P B body (S n x) (.exit id) Φ) (x:α) (h0:I 0 x):RunsB P B (.block id (.loop body)) (S 0 x) .normal Φ:=by
 refine RunsB.block (RunsB.loop (n:=n+1) ?_);have key:∀j i x,i+j=n->I i x->RoundsB P B body (j+1) (S i x) (.exit id) Φ:=by
  intro j
  induction j with
  | zero =>
    intro i x h hi;rw[Nat.add_zero]at h;subst h;exact RoundsB.out (he x hi)
  | succ j ih =>
    intro i x h hi;refine RoundsB.next (hr i x (by omega) hi) fun t ⟨x',hx,ht⟩=> ?_;subst ht;exact ih (i+1) x' (by omega) hx
 exact key n 0 x (by omega) h0
theorem RunsB.call{g:FuncId}{fn:Func}{c:Code}{args:List SV}{M:List Blk}{d:Dec}{Φ:St->Prop}{x:St->SV}(hg:P.funcs[g]? =some fn)(hb:fn.body=some c){m:Nms}{w:World}{vs:List Value}(hvs:dens m args=some vs)(hM:MemAt m w M)
  (h:RunsB P ⟨m,M,w,hM⟩ c ⟨args++List.replicate (fn.ntmps-args.length) (.tup []),M,d,[]⟩ .ret Φ) (hx:∀t,Φ t->resultS P fn t=some (x t)) :
  Calls P g vs.toArray w fun e w'=>∃t m' v,Φ t/\e= .returned v/\den m' (x t)=some v/\MemAt m' w' t.M/\Goes m M w m' t.M w':=by
 have hl:=dens_length hvs;refine calls_of_wp hg hb ?_;have htm:dens m (args++List.replicate (fn.ntmps-args.length) (.tup []))=some (vs.toArray++Array.replicate (fn.ntmps-vs.toArray.size) undef).toList:=by have:=dens_append hvs (dens_replicate (undef_den m) (fn.ntmps-args.length));rw[this];simp[hl]
 refine h _ _ w _ ⟨htm,rfl,hM⟩ (Goes.refl m M w) fun t m' a' w' h1 hst hgo=> ?_;obtain⟨v,hv,hr⟩:=resultS_ok hst (hx t h1);exact⟨hst.df,v,hr,t,m',v,h1,rfl,hv,hst.mem,hgo⟩
end
end Rx
namespace Go.Proofs.YtejcekikbnlllaaGreat
open Go.RowKit Bu Rx
noncomputable def en0(pre:List Blk)(off len cap:Nat)(cos:I)(lf:SV):St:=⟨([.ssl 0 off len cap,.agg [.fl cos.lo,.fl cos.hi],lf]:List SV)++List.replicate 45 (.tup []),pre,none,[]⟩
def lc0(len:Nat):List SV:=ofA (madeCells #[.float .f64 0,.float .f64 0,.float .f64 0,.float .f64 0] ((len:Int).toNat*4))
section
variable (N:Nde) (e:TypeId) (cells:List SV) (v u:V3) (off len cap:Nat) (cos:I)
theorem enA0:Lands prog EG (OD N) 60 aC0 (en0 (preA e cells v u) off len cap cos lfA) .normal:=by unfold Lands;kernel_rfl
theorem enA0o:(aft prog EG (OD N) 60 aC0 (en0 (preA e cells v u) off len cap cos lfA)).ob=[]:=by kernel_rfl
noncomputable abbrev sA0:St:=aft prog EG (OD N) 60 aC0 (en0 (preA e cells v u) off len cap cos lfA)
theorem enA1:Lands prog EG (OD N) 60 aC1 (sA0 N e cells v u off len cap cos) .normal:=by unfold Lands;kernel_rfl
noncomputable abbrev sA1:St:=aft prog EG (OD N) 60 aC1 (sA0 N e cells v u off len cap cos)
theorem enA1o:(sA1 N e cells v u off len cap cos).ob=[(mkC 32 len len&&decide ((len:Int)<=9223372036854775807),true)]:=by kernel_rfl
theorem enA2:Lands prog EG (OD N) 60 aC2 (sA1 N e cells v u off len cap cos) .normal:=by unfold Lands;kernel_rfl
noncomputable abbrev sA2:St:=aft prog EG (OD N) 60 aC2 (sA1 N e cells v u off len cap cos)
theorem enA2o:(sA2 N e cells v u off len cap cos).ob=[(mkC 32 len len&&decide ((len:Int)<=9223372036854775807),true)]:=by kernel_rfl
noncomputable def xA:Nat->SV:=fun j=>(sA2 N e cells v u off len cap cos).T.getD j .np
theorem enA2T:(sA2 N e cells v u off len cap cos).T=aT 3 off len cap cos lfA (.i .i64 0) (xA N e cells v u off len cap cos):=by kernel_rfl
theorem enA2M:(sA2 N e cells v u off len cap cos).M=preA e cells v u++aTail cos (lc0 len):=by kernel_rfl
end
theorem lc0_row(c:Nat->Ch)(len:Nat):ChRow c len 0 (lc0 len):=by refine⟨?_,ofA_ids _,fun j hj=>absurd hj (Nat.not_lt_zero j)⟩;have h:=dens_length (dens_ofA (m:=Nms.no) (madeCells #[.float .f64 0,.float .f64 0,.float .f64 0,.float .f64 0] ((len:Int).toNat*4)));rw[Array.length_toList,size_madeCells]at h;exact h.symm.trans (by simp)
end Go.Proofs.YtejcekikbnlllaaGreat
namespace Bu
open Rx Go
theorem okNd_mix{n:Nd}{p:Int}(h:okNd n p=true)(h5:n.k=5):(0<=n.a/\n.a<p)/\0<=n.b/\n.b<p:=by unfold okNd at h;rw[h5]at h;simp only[aTz,decide_eq_true_eq,Int.reduceEq,decide_false,decide_true,cF,cT]at h;exact⟨⟨h.2.2.1,h.2.2.2.1⟩,h.2.2.2.2.1,h.2.2.2.2.2⟩
theorem okNd_coat{n:Nd}{p:Int}(h:okNd n p=true)(h6:n.k=6):0<=n.a/\n.a<p:=by unfold okNd at h;rw[h6]at h;simp only[aTz,decide_eq_true_eq,Int.reduceEq,decide_false,decide_true,cF,Bool.true_and]at h;exact⟨h.2.2.2.1,h.2.2.2.2.1⟩
theorem okNd_leaf{n:Nd}{p:Int}(h:okNd n p=true)(h5:n.k≠5)(h6:n.k≠6):n.a=0/\n.b=0:=by
 unfold okNd at h;rw[dF h5,dF h6]at h;by_cases h1:n.k=1
 ·rw[dT h1]at h;simp only[cT,aTz,decide_eq_true_eq]at h;exact⟨h.2.2.1,h.2.2.2⟩
 rw[dF h1]at h;by_cases h2:n.k=2
 ·rw[dT h2]at h;simp only[cT,cF,aTz,decide_eq_true_eq]at h;exact⟨h.2.2.1,h.2.2.2⟩
 rw[dF h2]at h;by_cases h3:n.k=3
 ·rw[dT h3]at h;simp only[cT,cF,aTz,decide_eq_true_eq]at h;exact⟨h.2.2.2.1,h.2.2.2.2⟩
 rw[dF h3]at h;by_cases h4:n.k=4
 ·rw[dT h4]at h;simp only[cT,cF,aTz,decide_eq_true_eq]at h;exact⟨h.2.2.2.1,h.2.2.2.2⟩
 rw[dF h4]at h;simp only[cF,Bool.false_and]at h;cases h
theorem ChRow.at{c:Nat->Ch}{len i:Nat}{lc:List SV}(h:ChRow c len i lc){a:Int}(h0:0<=a)(ha:a<i) :
  chAt lc (0+a.toNat*4)=c a.toNat/\ckAll lc (0+a.toNat*4) chCK=true/\ckAll lc (0+a.toNat*4) [.f,.f]=true/\ckAll lc (0+a.toNat*4+2) [.f,.f]=true:=by
 have hc:=h.c a.toNat (by omega);rw[Nat.zero_add];obtain⟨e1,e2⟩:=ch_at hc;have e3:=e2;unfold chCK ckAll ckAll ckAll ckAll ckAll at e3;simp only[aTz]at e3;obtain⟨q0,q1,q2,q3,_⟩:=e3;refine⟨e1,e2,?_,?_⟩
 ·unfold ckAll ckAll ckAll;simp only[q0,q1,Bool.and_self]
 ·unfold ckAll ckAll ckAll;simp only[Bool.and_true,aTz];exact⟨q2,q3⟩
theorem ob_app{a b:Obs}(h:ObsOk a)(k:ObsOk b):ObsOk (a++b):=fun p hp=>by
 rcases List.mem_append.1 hp with h1|h1
 ·exact h p h1
 ·exact k p h1
theorem ix_of{a:Int}{n:Nat}(h0:0<=a)(h:a<n):ixB a n=true:=by unfold ixB;simp;omega
theorem ne_0{n:Int}(h:n=0):(n != 0)=false:=by rw[h];rfl
end Bu
namespace Go.Proofs.YtejcekikbnlllaaGreat
open Go.RowKit Bu Rx
theorem hd_ok{cells cs:List SV}{off len i:Nat}(K:OkPg cs len)(hca:CellsAt cells off cs)(hi:i<len):ObsOk (aHdO cells off len (i:Int)):=by obtain⟨a1,_⟩:=K.at hca hi;unfold aHdO;rw[tN];exact obs_cons (by unfold slB;simp;omega) (obs_cons a1 (obs_cons (ix_of (by omega) (by omega)) (obs_cons (dT (by omega)) obs_nil)))
theorem cut_M{s:St}{T:List SV}{M:List Blk}{d:Dec}{o:Obs}{k:Nat}{v:Nat->Value}(h:s.cut k v=⟨T,M,d,o⟩):s.M.take k=M:=(congrArg St.M h:_)
theorem cut_T{s:St}{T:List SV}{M:List Blk}{d:Dec}{o:Obs}{k:Nat}{v:Nat->Value}(h:s.cut k v=⟨T,M,d,o⟩):(s.cut k v).T=T:=congrArg St.T h
theorem round_fin{c:Code}{s s':St}{k k' off len cap:Nat}{cos:I}{lf:SV}{j:Int}{pre:List Blk}{lc':List SV}(h:RunsP prog c s .normal (fun t=>t=s'))(hk:s.M.length<=k)(X:(Nat->Value)->Nat->SV)
  (hT:∀vv,(s'.cut k vv).T=aT k' off len cap cos lf (.si .i64 j) (X vv)) (hM:s'.M.take k=pre++aTail cos lc') (hpre:∀b∈pre,idsLts 0 b.cells=true) (hl:idsLts 0 lc'=true) :
  RunsP prog c s .normal (fun t=>∃y,t=aS pre k' off len cap cos lf (.si .i64 j) y lc' none):=by
 refine RunsP.round h hk (fun b hb=> ?_) fun vv=>⟨aS pre k' off len cap cos lf (.si .i64 j) (X vv) lc' none,⟨_,rfl⟩,same_eq (hT vv).symm hM.symm⟩;rw[hM]at hb;refine idsLts_mono (Nat.zero_le k) ?_;rcases List.mem_append.1 hb with h1|h1
 ·exact hpre b h1
 ·simp only[aTail,List.mem_cons,List.not_mem_nil,or_false]at h1;rcases h1 with rfl|rfl|rfl
  ·rfl
  ·rfl
  ·exact hl
theorem roundA{N:Nde}(hO:OracleOk prog (OD N)){e:TypeId}{cs cells lc:List SV}{v u:V3}{off len cap i:Nat}{cos:I}{x:Nat->SV}(K:OkPg cs len)(hca:CellsAt cells off cs)(hid:idsLts 0 cells=true)
  (hB:allB N cos (lfR N.g v u) (lfRo N.go v u) cs len=true) (hi:i<len) (hl:ChRow (chF (allF N cos (lfR N.g v u) cs)) len i lc) :
  RunsP prog aBd (aS (preA e cells v u) 3 off len cap cos lfA (.si .i64 (i:Int)) x lc none) .normal (fun t=>∃y lc',ChRow (chF (allF N cos (lfR N.g v u) cs)) len (i+1) lc'/\t=aS (preA e cells v u) 3 off len cap cos lfA (.si .i64 ((i+1:Nat):Int)) y lc' none):=by
 have hb:=allB_at hB hi;have hnx:=hl.next hi;obtain⟨_,hR⟩:=K.at hca hi;have hnd:=K.nd i hi;have hH:=hd_ok K hca hi;have hw:IntKind.i64.wrap ((i:Int)+1)=((i+1:Nat):Int):=wrap_s (by have:=K.hi;omega);have hst:decide (0+i*4+4<=lc.length)=true:=dT (by rw[hl.l];omega);have hix:ixB (i:Int) len=true:=ix_of (by omega) (by omega);have hg:∀{a:Int},0<=a->a<i->(chL (allF N cos (lfR N.g v u) cs) i).getD a.toNat Ch.zero=chAt lc (0+a.toNat*4):=fun h0 h1=>by rw[(hl.at h0 h1).1];exact chL_get _ (by omega)
 have hpre:∀b∈preA e cells v u,idsLts 0 b.cells=true:=fun b hb=>by simp only[preA,List.mem_cons,List.not_mem_nil,or_false]at hb;rcases hb with rfl|rfl|rfl<;>first|exact hid|rfl
 unfold nodB at hb;rw[aTz,decide_eq_true_eq]at hb;obtain⟨hb1,hb2⟩:=hb;generalize hcv:chF (allF N cos (lfR N.g v u) cs) i=cv at hnx;have hcv':(nodC N cos (lfR N.g v u) (fun j=>(chL (allF N cos (lfR N.g v u) cs) i).getD j Ch.zero) (ndR cs (i*19))).1=cv:=hcv;by_cases h5:(ndR cs (i*19)).k=5
 ·obtain⟨⟨a0,a1⟩,b0,b1⟩:=okNd_mix hnd h5;have hC:nodC N cos (lfR N.g v u) (fun j=>(chL (allF N cos (lfR N.g v u) cs) i).getD j Ch.zero) (ndR cs (i*19))=mixC N.K ((ndR cs (i*19)).f 15) (chsAt lc (ndR cs (i*19)).a.toNat) (chsAt lc (ndR cs (i*19)).b.toNat):=by unfold nodC chsAt;rw[dT h5,cT];simp only[hg a0 a1,hg b0 b1]
  rw[hC]at hb2 hcv';have hob:ObsOk (aA N e cells lc v u off len cap cos i x [true,true,false]).ob:=by rw[aOm,tN,hR];obtain⟨_,p1,_⟩:=hl.at a0 a1;obtain⟨_,q1,_⟩:=hl.at b0 b1;exact ob_app (obs_cons hst (obs_cons hix (obs_cons (ne_0 hb2) (obs_cons q1 (obs_cons (ix_of b0 (by omega)) (obs_cons p1 (obs_cons (ix_of a0 (by omega)) (obs_cons (dT h5) obs_nil)))))))) hH
  have hM:=cut_M (aCm N e cells lc v u off len cap cos i x (fun _=>undef));rw[tN,hR,Nat.zero_add]at hM;exact RunsP.re (d:=some [true,true,false]) (o:=[]) ((round_fin (pre:=preA e cells v u) (lf:=lfA) (k':=3) (off:=off) (len:=len) (cap:=cap) (cos:=cos) (j:=((i+1:Nat):Int)) (lc':=putRow lc (i*4) cv.cells) (Lands.runs goodG hO (aLm N e cells lc v u off len cap cos i x) hob) (by show(preA e cells v u++aTail cos lc).length<=6;simp[preA,aTail]) (aXm N e cells lc v u off len cap cos i x) (fun vv=>by have hT:=cut_T (aCm N e cells lc v u off len cap cos i x vv);rw[hw]at hT;exact hT) (by rw[<-hcv'];exact hM) hpre hnx.d).mono fun t ⟨y,ht⟩=>⟨y,_,hnx,ht⟩)
 rw[dF h5,cF]at hb1;by_cases h6:(ndR cs (i*19)).k=6
 ·obtain⟨a0,a1⟩:=okNd_coat hnd h6;have hC:nodC N cos (lfR N.g v u) (fun j=>(chL (allF N cos (lfR N.g v u) cs) i).getD j Ch.zero) (ndR cs (i*19))=coatC N.K (N.D cos ⟨(ndR cs (i*19)).f 14,(ndR cs (i*19)).f 14⟩).1 (chsAt lc (ndR cs (i*19)).a.toNat):=by unfold nodC chsAt;rw[dF h5,dT h6,cF,cT];simp only[hg a0 a1]
  rw[hC]at hb2 hcv';rw[dT h6,cT,aTz,decide_eq_true_eq]at hb1;have hob:ObsOk (aA N e cells lc v u off len cap cos i x [true,false,true,false,false]).ob:=by rw[aOc,tN,hR];obtain⟨_,_,p2,p3⟩:=hl.at a0 a1;exact ob_app (obs_cons hst (obs_cons hix (obs_cons (ne_0 hb2) (obs_cons p3 (obs_cons (ix_of a0 (by omega)) (obs_cons p2 (obs_cons (ix_of a0 (by omega)) (obs_cons (ne_0 hb1.2) obs_nil)))))))) (ob_app (ob_app (obsB_ok hb1.1) (obs_cons (dT h6) (obs_cons (dF h5) obs_nil))) hH)
  have hM:=cut_M (aCc N e cells lc v u off len cap cos i x (fun _=>undef));rw[tN,hR,Nat.zero_add]at hM;exact RunsP.re (d:=some [true,false,true,false,false]) (o:=[]) ((round_fin (pre:=preA e cells v u) (lf:=lfA) (k':=3) (off:=off) (len:=len) (cap:=cap) (cos:=cos) (j:=((i+1:Nat):Int)) (lc':=putRow lc (i*4) cv.cells) (Lands.runs goodG hO (aLc N e cells lc v u off len cap cos i x) hob) (by show(preA e cells v u++aTail cos lc).length<=6;simp[preA,aTail]) (aXc N e cells lc v u off len cap cos i x) (fun vv=>by have hT:=cut_T (aCc N e cells lc v u off len cap cos i x vv);rw[hw]at hT;exact hT) (by rw[<-hcv'];exact hM) hpre hnx.d).mono fun t ⟨y,ht⟩=>⟨y,_,hnx,ht⟩)
 ·rw[dF h6,cF]at hb1;have hC:nodC N cos (lfR N.g v u) (fun j=>(chL (allF N cos (lfR N.g v u) cs) i).getD j Ch.zero) (ndR cs (i*19))=(⟨((lfR N.g v u) (ndR cs (i*19))).1,Ch.zero.m⟩,((lfR N.g v u) (ndR cs (i*19))).2):=by unfold nodC;rw[dF h5,dF h6,cF,cF]
  rw[hC]at hb2 hcv';have hob:ObsOk (aA N e cells lc v u off len cap cos i x [true,false,false,false]).ob:=by rw[aOl,tN,hR];exact ob_app (obs_cons hst (obs_cons hix (obs_cons (ne_0 hb2) obs_nil))) (ob_app (ob_app (ob_app (obsB_ok hb1) obs_nil) (obs_cons (dF h6) (obs_cons (dF h5) obs_nil))) hH)
  have hM:=cut_M (aCl N e cells lc v u off len cap cos i x (fun _=>undef));rw[tN,hR,Nat.zero_add]at hM;exact RunsP.re (d:=some [true,false,false,false]) (o:=[]) ((round_fin (pre:=preA e cells v u) (lf:=lfA) (k':=3) (off:=off) (len:=len) (cap:=cap) (cos:=cos) (j:=((i+1:Nat):Int)) (lc':=putRow lc (i*4) cv.cells) (Lands.runs goodG hO (aLl N e cells lc v u off len cap cos i x) hob) (by show(preA e cells v u++aTail cos lc).length<=6;simp[preA,aTail]) (aXl N e cells lc v u off len cap cos i x) (fun vv=>by have hT:=cut_T (aCl N e cells lc v u off len cap cos i x vv);rw[hw]at hT;exact hT) (by rw[<-hcv'];exact hM) hpre hnx.d).mono fun t ⟨y,ht⟩=>⟨y,_,hnx,ht⟩)
theorem loop2{P:Program}{body:Code}{id:Nat}{Φ:St->Prop}(S:Nat->(Nat->SV)->List SV->St)(I:Nat->List SV->Prop)(n:Nat)(hr:∀i x y,i<n->I i y->RunsP P body (S i x y) .normal (fun t=>∃x' y',I (i+1) y'/\t=S (i+1) x' y'))
  (he:∀x y,I n y->RunsP P body (S n x y) (.exit id) Φ) (x:Nat->SV) (y:List SV) (h0:I 0 y):RunsP P (.block id (.loop body)) (S 0 x y) .normal Φ:=
 loop_inv (fun i(p:(Nat->SV)×List SV)=>S i p.1 p.2) (fun i p=>I i p.2) n (fun i p hi h=>(hr i p.1 p.2 hi h).mono fun t ⟨x',y',h1,h2⟩=>⟨(x',y'),h1,h2⟩) (fun p h=>he p.1 p.2 h) (x,y) h0
theorem allA{N:Nde}(hO:OracleOk prog (OD N)){e:TypeId}{cs cells:List SV}{v u:V3}{off len cap:Nat}{cos:I}(K:OkPg cs len)(hca:CellsAt cells off cs)(hid:idsLts 0 cells=true)
  (hB:allB N cos (lfR N.g v u) (lfRo N.go v u) cs len=true) :
  RunsP prog aC (en0 (preA e cells v u) off len cap cos lfA) .ret (fun t=>resultS prog Tryz.f68 t=some (.tup [(chF (allF N cos (lfR N.g v u) cs) (len-1)).sv,.i .i64 0])/\∃more,t.M=(preA e cells v u)++more):=by
 have hmk:(mkC 32 len len&&decide ((len:Int)<=9223372036854775807))=true:=by have:=K.hi;unfold mkC;simp;omega
 rw[aC_cut];refine Lands.seq goodG hO (enA0 N e cells v u off len cap cos) (by rw[enA0o];exact obs_nil) ?_;refine Lands.seq goodG hO (enA1 N e cells v u off len cap cos) (by rw[enA1o];exact obs_cons hmk obs_nil) ?_;refine RunsP.seq (Φ:=fun t=>∃y lc,ChRow (chF (allF N cos (lfR N.g v u) cs)) len len lc/\t=aS (preA e cells v u) 3 off len cap cos lfA (.si .i64 (len:Int)) y lc none) ?_ fun t ⟨y,lc,hl,ht⟩=> ?_
 ·refine Lands.seq goodG hO (enA2 N e cells v u off len cap cos) (by rw[enA2o];exact obs_cons hmk obs_nil) ?_;have hs:SameSt (aS (preA e cells v u) 3 off len cap cos lfA (.si .i64 ((0:Nat):Int)) (xA N e cells v u off len cap cos) (lc0 len) none) (sA2 N e cells v u off len cap cos):=by
   refine same_T (fun m=> ?_) ?_
   ·rw[enA2T];simp only[aS,aT,dens,den,Int.natCast_zero]
   ·rw[enA2M];rfl
  refine RunsP.retell hs ?_;refine loop2 (fun(i:Nat)(x:Nat->SV)(y:List SV)=>aS (preA e cells v u) 3 off len cap cos lfA (.si .i64 (i:Int)) x y none) (fun i y=>ChRow (chF (allF N cos (lfR N.g v u) cs)) len i y) len ?_ ?_ _ _ (lc0_row _ len)
  ·intro i x lc hi hl;exact(roundA hO K hca hid hB hi hl)
  ·intro x lc hl;have hob:ObsOk (aft prog EG (OD N) 60 aBd (aS (preA e cells v u) 3 off len cap cos lfA (.si .i64 (len:Int)) x lc (some [false]))).ob:=by rw[eAEo];exact obs_cons (dF (by omega)) obs_nil
   refine RunsP.re (d:=some [false]) (o:=[]) (Lands.fin goodG hO (eAE N e cells lc v u off len cap cos len x) hob ?_);exact⟨aS (preA e cells v u) 3 off len cap cos lfA (.si .i64 (len:Int)) (fun j=>bif Nat.beq j 18 then .b false else x j) lc none,⟨_,_,hl,rfl⟩,same_eq (congrArg St.T (eAEo N e cells lc v u off len cap cos len x)).symm (congrArg St.M (eAEo N e cells lc v u off len cap cos len x)).symm⟩
 ·subst ht;have hw:IntKind.i64.wrap ((len:Int)-1)=((len-1:Nat):Int):=by have:=K.lo;have:=K.hi;rw[IntKind.wrap_i64];omega
  have hlo:=K.lo;obtain⟨h1,h2,_⟩:=hl.at (a:=((len-1:Nat):Int)) (by omega) (by omega);rw[tN]at h1 h2;refine Lands.all goodG hO (eAT N e cells lc v u off len cap cos len y) ?_ ⟨?_,eATM N e cells lc v u off len cap cos len y⟩
  ·rw[eATo,hw,tN];exact obs_cons h2 (obs_cons (ix_of (by omega) (by omega)) obs_nil)
  ·rw[eATr,hw,tN];unfold chsAt;rw[h1]
def chP(N:Nde)(cos:I)(lf:Nd->I×Int)(cs:List SV)(len:Nat):Ch:=chF (allF N cos lf cs) (len-1)
def chV(c:Ch):Value:= .agg #[.float .f64 c.p.lo.b,.float .f64 c.p.hi.b,.float .f64 c.m.lo.b,.float .f64 c.m.hi.b]
theorem ch_plain(c:Ch):plain (.tup [c.sv,.i .i64 0])=some (.tuple #[chV c,.int .i64 0]):=rfl
end Go.Proofs.YtejcekikbnlllaaGreat
namespace Bu
open Rx Go
structure Ndn where
 o:List SV->Nat->Bool
 g:I->V3->V3->List SV->Nat->Ch
 b:I->V3->V3->List SV->Nat->Bool
 gm:I->List SV->Nat->Ch
 bm:I->List SV->Nat->Bool
theorem at_take{cells cs:List SV}{off:Nat}(h:CellsAt cells off cs):(cells.drop off).take cs.length=cs:=by
 refine List.ext_getElem? fun j=> ?_;rw[List.getElem?_take];by_cases hj:j<cs.length
 ·rw[if_pos hj,List.getElem?_drop,h j _ (List.getElem?_eq_getElem hj),List.getElem?_eq_getElem hj]
 ·rw[if_neg hj,List.getElem?_eq_none (by omega)]
end Bu
namespace Go.Proofs.YtejcekikbnlllaaGreat
open Go.RowKit Bu Rx
def cutC(cells:List SV)(off len:Nat):List SV:=(cells.drop off).take (len*19)
theorem rd_of_runT{P:Program}{E:ExtF}{O:OracleF}(hP:Rx.Good P E)(hO:OracleOk P O)(n:Nat){g:FuncId}{cs l:List SV}{len:Nat}{vc vs:List Value}{x:SV}{v:Value}(hc:plains cs=some vc)(hl:plains l=some vs)(hx:plain x=some v)
  (h:∀(e:TypeId)(cells:List SV)(off cap:Nat),CellsAt cells off cs->∃ds ds' ob,((run P E O n).1 g (.ssl 0 off len cap::l) [⟨e,cells,.num⟩] ds).map (fun q=>(q.1,q.2.1.take 1,q.2.2))=some (x,[⟨e,cells,.num⟩],ds',ob)/\ObsOk ob)
  (w:World) (r off cap:Nat) (hw:RowAt w r off vc):Calls P g (Value.slice (some ⟨r,off,none⟩) len cap::vs).toArray w fun e w'=>e= .returned v/\Below w.heap.size w w':=by
 refine rd_of_run hP hO n hc hl hx (fun e cells off cap hca=> ?_) w r off cap hw;obtain⟨ds,ds',ob,h1,h2⟩:=h e cells off cap hca;simp only[mIz,pIz]at h1;obtain⟨⟨y,M,d,o⟩,h3,h4,h5,h6⟩:=h1;simp only at h4 h5 h6;obtain⟨rfl,rfl⟩:=Prod.mk.inj h6;subst h4;cases M with
 |nil=>simp at h5
 | cons b M =>
   simp only[List.take_succ_cons,List.take_zero,List.cons.injEq,and_true]at h5;subst h5;exact⟨M,ds,d,o,h3,h2⟩
def vcO(v:V3):Obs:=[(decide (v.z.hi.k<=(toF 4607182418800017408).k),true),(decide ((toF 0).k<=v.z.lo.k),true),(decide (v.y.hi.k<=(toF 4607182418800017408).k),true),(decide ((toF 13830554455654793216).k<=v.y.lo.k),true),(decide (v.x.hi.k<=(toF 4607182418800017408).k),true),(decide ((toF 13830554455654793216).k<=v.x.lo.k),true),
 (decide (v.z.lo.k<=v.z.hi.k),true),(decide (v.y.lo.k<=v.y.hi.k),true),(decide (v.x.lo.k<=v.x.hi.k),true)]
section
variable (D:Ndn) (e:TypeId) (cells:List SV) (off len cap:Nat) (v u:V3) (cos:I)
end
theorem cut_at{cells cs:List SV}{off len:Nat}(h:CellsAt cells off cs)(hl:cs.length=len*19):cutC cells off len=cs:=by unfold cutC;rw[<-hl];exact at_take h
theorem dnK:PlainOk prog 153 (kDn (dnG4 GmR) dnO4):=by
 intro args ds x ds' ob h ho;unfold kDn at h;split at h
 ·rename_i y p0 p1 p2 p3 p4 p5 r0 r1 r2 r3 r4 r5;split at h
  ·rename_i n hn;simp only[sIz,pIz]at h;obtain⟨rfl,_,rfl⟩:=h;have ha:n.a=0:=oTz (ho _ (List.mem_cons_self ..));have hb:n.b=0:=oTz (ho _ (List.mem_cons_of_mem _ (List.mem_cons_self ..)));have h4:ObsOk (dnO4 ⟨n.k,etaF n.f,0,⟨⟨p0,p1⟩,⟨p2,p3⟩,⟨p4,p5⟩⟩,⟨⟨r0,r1⟩,⟨r2,r3⟩,⟨r4,r5⟩⟩⟩):=fun p hp=>ho p (List.mem_cons_of_mem _ (List.mem_cons_of_mem _ hp));have hy:=ndOf_plain hn;have hnd:ndV n=nodeV n.k (etaF n.f):=by unfold ndV;rw[ha,hb];rfl
   rw[hnd]at hy;obtain⟨vs,v,h5,h6,h7⟩:=denK (dArgs n.k (etaF n.f) ⟨⟨p0,p1⟩,⟨p2,p3⟩,⟨p4,p5⟩⟩ ⟨⟨r0,r1⟩,⟨r2,r3⟩,⟨r4,r5⟩⟩) ds _ ds _ rfl h4;refine⟨vs,v,?_,h6,h7⟩;rw[<-h5];have e1:plain (nodeS n.k (etaF n.f))=some (nodeV n.k (etaF n.f)):=(nd_pl _ _).1;show plains (y::_)=plains (nodeS n.k (etaF n.f)::_);unfold plains;rw[hy,e1];rfl
  ·cases h
 ·cases h
noncomputable def NdR:Nde:=⟨KkR,fun c n=>lnR (fdK KkR c n) 0,fdO,dnG4 GmR,dnO4⟩
theorem oracleOD:OracleOk prog (OD NdR):=
 .cons addC <| .cons subC <| .cons mulC <| .cons divC <| .cons cmax_I <| .cons sqrC <| .cons csqrt_I <|
 .cons negC <|
 .cons numC <| .cons irtK.of <| .cons rightG.of <| .cons absG.of <| .cons vwG.of <| .cons piG.of <| .cons fdG.of <| .cons dnK.of <| .nil _
section
variable (D:Ndn) (un:F->F->F->V3) (ub:F->F->F->Bool) (e:TypeId) (cells:List SV) (off len cap:Nat) (x y z r s t:F)
end
end Go.Proofs.YtejcekikbnlllaaGreat
namespace Rx
open Go Go.RowKit
mutual
def noOsl:SV->Bool
 | .osl _ _ _=>false
 | .fn _ a b=>noOsls a&&noOsls b
 | .agg l=>noOsls l
 | .tup l=>noOsls l
 |_=>true
def noOsls:List SV->Bool
 | []=>true
 |x::l=>noOsl x&&noOsls l
end
mutual
theorem den_cap{m m2:Nms}(hf:∀n,m2 n=m n):∀{x:SV},noOsl x=true->den m2 x=den m x
 | .b _,_=>by simp only[den]
 | .i _ _,_=>by simp only[den]
 | .si _ _,_=>by simp only[den]
 | .f _,_=>by simp only[den]
 | .fl _,_=>by simp only[den]
 | .np,_=>by simp only[den]
 | .o _,_=>by simp only[den]
 | .p n off,_=>by simp only[den,hf]
 | .sp n off,_=>by simp only[den,hf]
 | .sl n off len cap,_=>by simp only[den,hf]
 | .ssl n off len cap,_=>by simp only[den,hf]
 | .osl y n len,h=>by simp[noOsl]at h
 | .fn f first cap, h => by simp only[noOsl,aTz]at h;simp only[den,dens_cap hf h.1,dens_cap hf h.2]
 | .agg l, h => by simp only[noOsl]at h;simp only[den,dens_cap hf h]
 | .tup l, h => by simp only[noOsl]at h;simp only[den,dens_cap hf h]
theorem dens_cap{m m2:Nms}(hf:∀n,m2 n=m n):∀{l:List SV},noOsls l=true->dens m2 l=dens m l
 | [],_=>by simp only[dens]
 | x :: l, h => by simp only[noOsls,aTz]at h;unfold dens;rw[den_cap hf h.1,dens_cap hf h.2]
end
theorem dens_put1{m:Nms}{T:List SV}{vs:List Value}{i:Nat}{x y:SV}(h:dens m T=some vs)(hi:T[i]? =some x)(he:den m y=den m x):dens m (T.set i y)=some vs:=by
 induction T generalizing vs i with
 |nil=>simp at hi
 | cons a l ih =>
   obtain⟨u,us,h1,h2,rfl⟩:=dens_cons_some.1 h;cases i with
   | zero =>
     simp at hi;subst hi;simp only[List.set_cons_zero];exact dens_cons (by rw[he];exact h1) h2
   | succ i =>
     simp at hi;simp only[List.set_cons_succ];exact dens_cons h1 (ih h2 hi)
theorem RunsB.own{P:Program}{B:Bs}{c:Code}{s t:St}{ex:Ex}{n L size i:Nat}{e:TypeId}{cells:List SV}(h:RunsB P B c s ex (fun u=>u=t))(hn:B.M.length<=n)
  (hb:t.M[n]? =some ⟨e,cells,.ex⟩) (hcl:cells.length=L*size) (hL:L<=maxLen) (hx:∀b∈t.M,b.exact=true/\idsLts 0 b.cells=true)
  (hT:t.T[i]? =some (.sl n 0 L L)) (hno:noOsls t.T=true):RunsB P B c s ex (fun u=>u=⟨t.T.set i (.osl true n L),t.M.set n ⟨e,cells,.rown size⟩,t.ds,t.ob⟩):=by
 intro m a w Q hs hg hq;refine h m a w Q hs hg fun t' m' a' w' h1 hst hg'=> ?_;subst h1;obtain⟨r,hr,hat⟩:=hst.mem.blk n _ hb;have hlv:∀{j q},m' j=some q->liveM t'.M j:=fun{j q}hj=>by have hl:=hst.mem.dom j q hj;refine⟨t'.M[j],List.getElem?_eq_getElem hl,?_⟩;have:=(hx _ (List.getElem_mem hl)).1;generalize t'.M[j]=b at this;obtain⟨e',cs',k'⟩:=b;cases k'<;>first|rfl|cases this
 have huni:∀{j},m' j=some r->j=n:=fun{j}hj=>hst.mem.inj j n r (hlv hj) (hlv hr) hj hr;have hf:∀j,(⟨m'.f,fun q=>if q=r then L else m'.c q⟩:Nms) j=m' j:=fun _=>rfl;obtain⟨cv,hd,hh⟩:=hat.ex;have hid:idsLts 0 cells=true:=(hx _ (List.mem_of_getElem? hb)).2;have hnl:n<t'.M.length:=(List.getElem?_eq_some_iff.1 hb).1;have hcv:cv.length=cells.length:=dens_length hd;refine hq _ ⟨m'.f,fun q=>if q=r then L else m'.c q⟩ a' w' rfl ⟨?_,hst.df,⟨⟨fun j q hj=>hst.mem.ok.lt j q hj⟩,fun j j' q l1 l2 h1 h2=>hst.mem.inj j j' q (hlv h1) (hlv h2) h1 h2,fun j b hj=> ?_,fun j q hj=> ?_⟩⟩ ?_
 ·have h0:=hst.tm;rw[<-dens_cap hf hno]at h0;refine dens_put1 h0 hT ?_;have hr':m'.f n=some r:=hr;simp only[den,hr',Option.map_some,Option.bind_some];rw[if_pos trivial];exact oslV_some.2 ⟨Nat.le_refl _,rfl⟩
 ·have hj0:(t'.M.set n ⟨e,cells,.rown size⟩)[j]? =some b:=hj;rw[List.getElem?_set]at hj0;split at hj0
  ·rename_i e1;subst e1;simp only[sIz]at hj0;subst hj0;refine⟨r,hr,fun _=>⟨cv,[],?_,by simpa[BK.z]using hh,⟨⟨?_,?_⟩,hid⟩⟩⟩
   ·rw[<-hd];exact dens_nums hid
   ·show(cv++ []).length=(if r=r then L else _)*size;rw[if_pos rfl,List.append_nil,hcv,hcl]
   ·show(if r=r then L else _)<=maxLen;rw[if_pos rfl];exact hL
  ·rename_i e1;obtain⟨q,hq1,hat1⟩:=hst.mem.blk j b hj0;refine⟨q,hq1,fun hl=> ?_⟩;obtain⟨cv1,sp1,d1,hh1,k1⟩:=hat1 hl;have hbx:=hx b (List.mem_of_getElem? hj0);refine⟨cv1,sp1,by rw[<-d1];exact dens_nums hbx.2,hh1,?_⟩;obtain⟨e',cs',k'⟩:=b;cases k'<;>first|exact k1|cases hbx.1
 ·show j<(t'.M.set n _).length;rw[List.length_set];exact hst.mem.dom j q hj
 ·refine⟨⟨hg'.ext.n,fun j q hj=> ?_⟩,hg'.fr,hg'.new,fun j q hj hl=>hg'.dd j q hj (hlv (hg'.ext.n j q hj))⟩;show(if q=r then L else m'.c q)=_;rw[if_neg ?_]
  ·exact hg'.ext.c j q hj
  ·intro e1;subst e1;have e2:=huni (hg'.ext.n j q hj);have:=B.mem.dom j q hj;omega
end Rx
namespace Bu
open Rx Go
def u32S(x:SV):Option Int:=match intS x with
 |some (.u32,n)=>some n
 |_=>none
def u8Of:SV->Option U8
 | .agg [x0, x1, x2, x3, x4, x5, x6, x7] => match u32S x0, u32S x1, u32S x2, u32S x3, u32S x4, u32S x5, u32S x6, u32S x7 with
   |some a0,some a1,some a2,some a3,some a4,some a5,some a6,some a7=>some ⟨a0,a1,a2,a3,a4,a5,a6,a7⟩
   |_,_,_,_,_,_,_,_=>none
 |_=>none
theorem u32S_plain{x:SV}{n:Int}(h:u32S x=some n):plain x=some (.int .u32 n):=by
 unfold u32S at h;split at h
 ·rename_i k e;simp only[sIz]at h;subst h;exact intS_plain e
 ·cases h
def U8.vs(u:U8):List Value:=[.int .u32 u.a0,.int .u32 u.a1,.int .u32 u.a2,.int .u32 u.a3,.int .u32 u.a4,.int .u32 u.a5,.int .u32 u.a6,.int .u32 u.a7]
theorem u8Of_plain{x:SV}{u:U8}(h:u8Of x=some u):plain x=some (.agg u.vs.toArray):=by
 unfold u8Of at h;split at h
 ·split at h
  ·rename_i e0 e1 e2 e3 e4 e5 e6 e7;simp only[sIz]at h;subst h;exact plain_agg (plains_cons (u32S_plain e0) (plains_cons (u32S_plain e1) (plains_cons (u32S_plain e2) (plains_cons (u32S_plain e3) (plains_cons (u32S_plain e4) (plains_cons (u32S_plain e5) (plains_cons (u32S_plain e6) (plains_cons (u32S_plain e7) rfl))))))))
  ·cases h
 ·cases h
def kLe8(k:U8->Int)(f:U8->Nat->F)(o:U8->Bool):List SV->Dec->Option (SV×Dec×Obs)
 | [x], ds => match u8Of x with
   |some u=>some (nodeZ (k u) (f u),ds,[(o u,true)])
   |none=>none
 |_,_=>none
end Bu
namespace Go.Proofs.YtejcekikbnlllaaGreat
open Go.RowKit Bu Rx
theorem le8G:PlainOk prog 58 (kLe8 leK (leF bwF) U8.ok):=by
 intro args ds x ds' ob h ho;unfold kLe8 at h;split at h
 ·rename_i y;split at h
  ·rename_i u hu;simp only[sIz,pIz]at h;obtain⟨rfl,_,rfl⟩:=h;have hy:=u8Of_plain hu;obtain⟨vs,v,h5,h6,h7⟩:=leG [u.sv] ds _ ds _ rfl ho;refine⟨vs,v,?_,h6,h7⟩;rw[<-h5];have e1:plain u.sv=some (.agg u.vs.toArray):=rfl;show plains [y]=plains [u.sv];unfold plains;rw[hy,e1]
  ·cases h
 ·cases h
structure Npr where
 k:U8->Int
 f:U8->Nat->F
 o:U8->Bool
 q:Int->F
 w:Int->Bool
 b:F->F->Int->F
 p:F->F->Bool
def OPr(N:Npr):OracleF:=lookO [(58,plainO (kLe8 N.k N.f N.o)),(23,plainO (kFq N.q N.w)),(36,plainO (kBw N.b N.p N.w))]
theorem oraclePr:OracleOk prog (OPr ⟨leK,leF bwF,U8.ok,frT,wN32,bwF,pairB⟩):= .cons le8G.of <| .cons frqG.of <| .cons bwG.of <| .nil _
noncomputable def pC:Code:=bodyOf prog 15
noncomputable def pC0:Code:=seqL pC
noncomputable def pC1:Code:=seqL (seqR pC)
noncomputable def pC2:Code:=seqL (seqR (seqR pC))
noncomputable def pC3:Code:=seqL (seqL (seqR (seqR (seqR pC))))
noncomputable def pBd:Code:=inner (inner (seqR (seqL (seqR (seqR (seqR pC))))))
noncomputable def pTl:Code:=seqR (seqR (seqR (seqR pC)))
theorem pBody:Tryz.f15.body=some pC:=by kernel_rfl
theorem pNt:Tryz.f15.ntmps=91:=by kernel_rfl
theorem pC_cut:pC= .seq pC0 (.seq pC1 (.seq pC2 (.seq (.seq pC3 (.block 0 (.loop pBd))) pTl))):=by kernel_rfl
end Go.Proofs.YtejcekikbnlllaaGreat
namespace Bu
open Rx Go
def u8At(cs:List SV)(o:Nat):U8:=⟨inAt cs o,inAt cs (o+1),inAt cs (o+2),inAt cs (o+3),inAt cs (o+4),inAt cs (o+5),inAt cs (o+6),inAt cs (o+7)⟩
def u8CK:List CK:=[.i .u32,.i .u32,.i .u32,.i .u32,.i .u32,.i .u32,.i .u32,.i .u32]
def prA(u:U8)(n:Nat):Int:=IntKind.i64.wrap (u.a1.tmod (IntKind.u32.wrap n))
def prB(u:U8)(n:Nat):Int:=IntKind.i64.wrap (u.a2.tmod (IntKind.u32.wrap n))
def prT(u:U8):Int:=(u.a0.fdiv (2^min (Int.toNat 2) IntKind.u32.bits)).tmod 4
def fz:SV:= .fl F.zero
def nzC(k:Int)(f:Nat->F):List SV:=[.si .u8 k,.fl (f 0),.fl (f 1),.fl (f 2),.fl (f 3),.fl (f 4),.fl (f 5),.fl (f 6),.fl (f 7),.fl (f 8),.fl (f 9),.fl (f 10),.fl (f 11),.fl (f 12),.fl (f 13),.fl (f 14),.fl (f 15),.i .i64 0,.i .i64 0]
def mxC(w:F)(a b:Int):List SV:=[.i .u8 5,fz,fz,fz,fz,fz,fz,fz,fz,fz,fz,fz,fz,fz,fz,fz,.fl w,.si .i64 a,.si .i64 b]
def coC(r t0 t1 t2:F)(a:Int):List SV:=[.i .u8 6,fz,fz,fz,.fl t0,.fl t1,.fl t2,fz,fz,fz,fz,fz,fz,fz,fz,.fl r,fz,.si .i64 a,.i .i64 0]
end Bu
namespace Go.Proofs.YtejcekikbnlllaaGreat
open Go.RowKit Bu Rx
def minIor_:F:=toF 4607463893776728064
def maxIor_:F:=toF 4616189618054758400
def pT(off len cap o1 l1 c1 n:Nat)(c:SV)(x:Nat->SV):List SV:=[SV.ssl 0 off len cap,x 1,x 2,SV.osl true 1 n,x 4,x 5,x 6,x 7,x 8,x 9,x 10,x 11,x 12,x 13,x 14,x 15,x 16,x 17,x 18,x 19,x 20,x 21,x 22,x 23,x 24,x 25,x 26,SV.ssl 0 o1 l1 c1,SV.si .i64 l1,c,x 30,x 31,x 32,x 33,x 34,x 35,x 36,x 37,x 38,x 39,x 40,x 41,x 42,x 43,x 44,x 45,x 46,x 47,x 48,x 49,x 50,x 51,x 52,x 53,x 54,x 55,x 56,x 57,x 58,x 59,x 60,x 61,x 62,x 63,x 64,x 65,x 66,x 67,x 68,x 69,x 70,x 71,x 72,x 73,x 74,x 75,x 76,x 77,x 78,x 79,x 80,x 81,x 82,x 83,x 84,x 85,x 86,x 87,x 88,x 89,x 90]
def pS(e:TypeId×(Nat×Nat))(cells pc:List SV)(off len cap o1 l1 c1 n:Nat)(c:SV)(x:Nat->SV)(d:Dec):St:=⟨pT off len cap o1 l1 c1 n c x,[⟨e.1,cells,.ro e.2⟩,⟨50,pc,.rown 19⟩],d,[]⟩
section
variable (N:Npr) (e:TypeId×(Nat×Nat)) (cells pc:List SV) (off len cap o1 l1 c1 n:Nat) (i:Int) (x:Nat->SV)
def pHd(w:Int->Bool)(cells:List SV)(o1 l1 n:Nat)(i:Int):Obs:=[(w (u8At cells (o1+i.toNat*8)).a6,true),(w (u8At cells (o1+i.toNat*8)).a5,true),(w (u8At cells (o1+i.toNat*8)).a4,true),(decide (IntKind.u32.wrap (n:Int)≠0),true),(decide (IntKind.u32.wrap (n:Int)≠0),true),(ckAll cells (o1+i.toNat*8) u8CK,true),(ixB i l1,true),(decide (i<l1),true)]
def pAp(pc:List SV)(n:Nat):Bool:=decide (n+1<=maxLen)&&(decide ((n+1)*152<=140737488355328)&&decide (pc.length=n*19))
noncomputable abbrev pA(d:List Bool):St:=aft prog EG (OPr N) 60 pBd (pS e cells pc off len cap o1 l1 c1 n (.si .i64 i) x (some d))
theorem pLl:Lands prog EG (OPr N) 60 pBd (pS e cells pc off len cap o1 l1 c1 n (.si .i64 i) x (some [true,true])) .normal:=by unfold Lands;kernel_rfl
theorem pOl:(pA N e cells pc off len cap o1 l1 c1 n i x [true,true]).ob=[(pAp pc n,true),(N.o (u8At cells (o1+i.toNat*8)),true),(decide (prT (u8At cells (o1+i.toNat*8))=0),true)]++pHd N.w cells o1 l1 n i:=by kernel_rfl
theorem pMl:selM (pA N e cells pc off len cap o1 l1 c1 n i x [true,true]).M [0,5]=some [⟨e.1,cells,.ro e.2⟩,⟨50,pc++(nzC (N.k (u8At cells (o1+i.toNat*8))) (N.f (u8At cells (o1+i.toNat*8)))),.rown 19⟩]:=by kernel_rfl
noncomputable def pXl(vv:Nat->Value):Nat->SV:=fun j=>((pA N e cells pc off len cap o1 l1 c1 n i x [true,true]).sel [0,5] [] vv).T.getD j .np
theorem pTTl(vv:Nat->Value)(M':List Blk):((pA N e cells pc off len cap o1 l1 c1 n i x [true,true]).sel [0,5] M' vv).T=pT off len cap o1 l1 c1 (n+1) (.si .i64 (IntKind.i64.wrap (i+1))) (pXl N e cells pc off len cap o1 l1 c1 n i x vv):=by kernel_rfl
theorem pLm:Lands prog EG (OPr N) 60 pBd (pS e cells pc off len cap o1 l1 c1 n (.si .i64 i) x (some [true,false,true])) .normal:=by unfold Lands;kernel_rfl
theorem pOm:(pA N e cells pc off len cap o1 l1 c1 n i x [true,false,true]).ob=[(pAp pc n,true),(N.w (u8At cells (o1+i.toNat*8)).a3,true),(decide (prT (u8At cells (o1+i.toNat*8))=1),true),(decide (prT (u8At cells (o1+i.toNat*8))=0),false)]++pHd N.w cells o1 l1 n i:=by kernel_rfl
theorem pMm:selM (pA N e cells pc off len cap o1 l1 c1 n i x [true,false,true]).M [0,5]=some [⟨e.1,cells,.ro e.2⟩,⟨50,pc++(mxC (N.q (u8At cells (o1+i.toNat*8)).a3) (prA (u8At cells (o1+i.toNat*8)) n) (prB (u8At cells (o1+i.toNat*8)) n)),.rown 19⟩]:=by kernel_rfl
noncomputable def pXm(vv:Nat->Value):Nat->SV:=fun j=>((pA N e cells pc off len cap o1 l1 c1 n i x [true,false,true]).sel [0,5] [] vv).T.getD j .np
theorem pTTm(vv:Nat->Value)(M':List Blk):((pA N e cells pc off len cap o1 l1 c1 n i x [true,false,true]).sel [0,5] M' vv).T=pT off len cap o1 l1 c1 (n+1) (.si .i64 (IntKind.i64.wrap (i+1))) (pXm N e cells pc off len cap o1 l1 c1 n i x vv):=by kernel_rfl
theorem pLn:Lands prog EG (OPr N) 60 pBd (pS e cells pc off len cap o1 l1 c1 n (.si .i64 i) x (some [true,false,false,true])) .normal:=by unfold Lands;kernel_rfl
theorem pOn:(pA N e cells pc off len cap o1 l1 c1 n i x [true,false,false,true]).ob=[(pAp pc n,true),(N.w (u8At cells (o1+i.toNat*8)).a3,true),(decide (prT (u8At cells (o1+i.toNat*8))=2),true),(decide (prT (u8At cells (o1+i.toNat*8))=1),false),(decide (prT (u8At cells (o1+i.toNat*8))=0),false)]++pHd N.w cells o1 l1 n i:=by kernel_rfl
theorem pMn:selM (pA N e cells pc off len cap o1 l1 c1 n i x [true,false,false,true]).M [0,5]=some [⟨e.1,cells,.ro e.2⟩,⟨50,pc++(mxC (N.q (u8At cells (o1+i.toNat*8)).a3) (prA (u8At cells (o1+i.toNat*8)) n) (prB (u8At cells (o1+i.toNat*8)) n)),.rown 19⟩]:=by kernel_rfl
noncomputable def pXn(vv:Nat->Value):Nat->SV:=fun j=>((pA N e cells pc off len cap o1 l1 c1 n i x [true,false,false,true]).sel [0,5] [] vv).T.getD j .np
theorem pTTn(vv:Nat->Value)(M':List Blk):((pA N e cells pc off len cap o1 l1 c1 n i x [true,false,false,true]).sel [0,5] M' vv).T=pT off len cap o1 l1 c1 (n+1) (.si .i64 (IntKind.i64.wrap (i+1))) (pXn N e cells pc off len cap o1 l1 c1 n i x vv):=by kernel_rfl
theorem pLc:Lands prog EG (OPr N) 60 pBd (pS e cells pc off len cap o1 l1 c1 n (.si .i64 i) x (some [true,false,false,false])) .normal:=by unfold Lands;kernel_rfl
theorem pOc:(pA N e cells pc off len cap o1 l1 c1 n i x [true,false,false,false]).ob=[(pAp pc n,true),(N.p minIor_ maxIor_,true),(N.w (u8At cells (o1+i.toNat*8)).a3,true),(decide (prT (u8At cells (o1+i.toNat*8))=2),false),(decide (prT (u8At cells (o1+i.toNat*8))=1),false),(decide (prT (u8At cells (o1+i.toNat*8))=0),false)]++pHd N.w cells o1 l1 n i:=by kernel_rfl
theorem pMc:selM (pA N e cells pc off len cap o1 l1 c1 n i x [true,false,false,false]).M [0,5]=some [⟨e.1,cells,.ro e.2⟩,⟨50,pc++(coC (N.b minIor_ maxIor_ (u8At cells (o1+i.toNat*8)).a3) (N.q (u8At cells (o1+i.toNat*8)).a4) (N.q (u8At cells (o1+i.toNat*8)).a5) (N.q (u8At cells (o1+i.toNat*8)).a6) (prA (u8At cells (o1+i.toNat*8)) n)),.rown 19⟩]:=by kernel_rfl
noncomputable def pXc(vv:Nat->Value):Nat->SV:=fun j=>((pA N e cells pc off len cap o1 l1 c1 n i x [true,false,false,false]).sel [0,5] [] vv).T.getD j .np
theorem pTTc(vv:Nat->Value)(M':List Blk):((pA N e cells pc off len cap o1 l1 c1 n i x [true,false,false,false]).sel [0,5] M' vv).T=pT off len cap o1 l1 c1 (n+1) (.si .i64 (IntKind.i64.wrap (i+1))) (pXc N e cells pc off len cap o1 l1 c1 n i x vv):=by kernel_rfl
theorem pLx:Lands prog EG (OPr N) 60 pBd (pS e cells pc off len cap o1 l1 c1 n (.si .i64 i) x (some [false])) (.exit 0):=by unfold Lands;kernel_rfl
theorem pXo:aft prog EG (OPr N) 60 pBd (pS e cells pc off len cap o1 l1 c1 n (.si .i64 i) x (some [false]))=⟨pT off len cap o1 l1 c1 n (.si .i64 i) (fun j=>bif Nat.beq j 30 then .b false else x j),[⟨e.1,cells,.ro e.2⟩,⟨50,pc,.rown 19⟩],some [],[(decide (i<l1),false)]⟩:=by kernel_rfl
theorem pLt:Lands prog EG (OPr N) 60 pTl (pS e cells pc off len cap o1 l1 c1 n (.si .i64 i) x none) .ret:=by unfold Lands;kernel_rfl
theorem pTo:(aft prog EG (OPr N) 60 pTl (pS e cells pc off len cap o1 l1 c1 n (.si .i64 i) x none)).ob=[]:=by kernel_rfl
theorem pTr:resultS prog Tryz.f15 (aft prog EG (OPr N) 60 pTl (pS e cells pc off len cap o1 l1 c1 n (.si .i64 i) x none))=some (.osl true 1 n):=by kernel_rfl
theorem pTM:(aft prog EG (OPr N) 60 pTl (pS e cells pc off len cap o1 l1 c1 n (.si .i64 i) x none)).M=[⟨e.1,cells,.ro e.2⟩,⟨50,pc,.rown 19⟩]:=by kernel_rfl
end
def qT(off len cap:Nat)(x:Nat->SV):List SV:=[SV.ssl 0 off len cap,x 1,x 2,SV.osl true 1 1,x 4,x 5,x 6,x 7,x 8,x 9,x 10,x 11,x 12,x 13,x 14,x 15,x 16,x 17,x 18,x 19,x 20,x 21,x 22,x 23,x 24,x 25,x 26,x 27,x 28,x 29,x 30,x 31,x 32,x 33,x 34,x 35,x 36,x 37,x 38,x 39,x 40,x 41,x 42,x 43,x 44,x 45,x 46,x 47,x 48,x 49,x 50,x 51,x 52,x 53,x 54,x 55,x 56,x 57,x 58,x 59,x 60,x 61,x 62,x 63,x 64,x 65,x 66,x 67,x 68,x 69,x 70,x 71,x 72,x 73,x 74,x 75,x 76,x 77,x 78,x 79,x 80,x 81,x 82,x 83,x 84,x 85,x 86,x 87,x 88,x 89,x 90]
def qS(e:TypeId×(Nat×Nat))(cells pc:List SV)(off len cap:Nat)(x:Nat->SV):St:=⟨qT off len cap x,[⟨e.1,cells,.ro e.2⟩,⟨50,pc,.rown 19⟩],none,[]⟩
def slC(l h cap:Int):Bool:=decide (0<=l)&&(decide (l<=h)&&decide (h<=cap))
def endC(l cap:Int):Nat:=bif decide (l=cap)then 0 else l.toNat
def u8Z:U8:=⟨0,0,0,0,0,0,0,0⟩
def pE(e:TypeId×(Nat×Nat))(cells:List SV)(off len cap:Nat)(d:Dec):St:=⟨([.ssl 0 off len cap]:List SV)++List.replicate 90 (.tup []),[⟨e.1,cells,.ro e.2⟩],d,[]⟩
section
variable (N:Npr) (e:TypeId×(Nat×Nat)) (cells pc:List SV) (off len cap:Nat) (x:Nat->SV)
theorem pL0(d:Bool):Lands prog EG (OPr N) 60 pC0 (pE e cells off len cap (some [d])) .normal:=by unfold Lands;kernel_rfl
noncomputable abbrev pS0(d:Bool):St:=aft prog EG (OPr N) 60 pC0 (pE e cells off len cap (some [d]))
theorem pO0(d:Bool):(pS0 N e cells off len cap d).ob=[]:=by kernel_rfl
theorem pL1(d:Bool):Lands prog EG (OPr N) 60 pC1 (pS0 N e cells off len cap d) .normal:=by unfold Lands;kernel_rfl
noncomputable abbrev pS1(d:Bool):St:=aft prog EG (OPr N) 60 pC1 (pS0 N e cells off len cap d)
theorem pO1(d:Bool):(pS1 N e cells off len cap d).ob=[(N.o u8Z,true)]:=by kernel_rfl
theorem pLa:Lands prog EG (OPr N) 60 pC2 (pS1 N e cells off len cap true) .normal:=by unfold Lands;kernel_rfl
noncomputable abbrev pSa:St:=aft prog EG (OPr N) 60 pC2 (pS1 N e cells off len cap true)
theorem pLb:Lands prog EG (OPr N) 60 pC2 (pS1 N e cells off len cap false) .normal:=by unfold Lands;kernel_rfl
noncomputable abbrev pSb:St:=aft prog EG (OPr N) 60 pC2 (pS1 N e cells off len cap false)
theorem pOa:(pSa N e cells off len cap).ob=[(N.o (u8At cells (off+0)),true),(ckAll cells (off+0) u8CK,true),(ixB 0 len,true),(decide ((0:Int)<len),true),(N.o u8Z,true)]:=by kernel_rfl
theorem pMa:(pSa N e cells off len cap).M=[⟨e.1,cells,.ro e.2⟩,⟨50,nzC (N.k u8Z) (N.f u8Z),.ex⟩,⟨50,nzC (N.k (u8At cells (off+0))) (N.f (u8At cells (off+0))),.ex⟩]:=by kernel_rfl
theorem pNa:noOsls (pSa N e cells off len cap).T=true:=by kernel_rfl
theorem p3a:(pSa N e cells off len cap).T[3]? =some (.sl 2 0 1 1):=by kernel_rfl
noncomputable def pXa(vv:Nat->Value):Nat->SV:=fun j=>((⟨(pSa N e cells off len cap).T.set 3 (.osl true 2 1),[],none,[]⟩:St).sel [0,2] [] vv).T.getD j .np
theorem pTa(vv:Nat->Value)(M M':List Blk)(d:Dec)(o:Obs):((⟨(pSa N e cells off len cap).T.set 3 (.osl true 2 1),M,d,o⟩:St).sel [0,2] M' vv).T=qT off len cap (pXa N e cells off len cap vv):=by kernel_rfl
theorem pOb:(pSb N e cells off len cap).ob=[(decide ((0:Int)<len),false),(N.o u8Z,true)]:=by kernel_rfl
theorem pMb:(pSb N e cells off len cap).M=[⟨e.1,cells,.ro e.2⟩,⟨50,nzC (N.k u8Z) (N.f u8Z),.ex⟩]:=by kernel_rfl
theorem pNb:noOsls (pSb N e cells off len cap).T=true:=by kernel_rfl
theorem p3b:(pSb N e cells off len cap).T[3]? =some (.sl 1 0 1 1):=by kernel_rfl
noncomputable def pXb:Nat->SV:=fun j=>(pSb N e cells off len cap).T.getD j .np
theorem pTb:(pSb N e cells off len cap).T.set 3 (.osl true 1 1)=qT off len cap (pXb N e cells off len cap):=by kernel_rfl
theorem pL3:Lands prog EG (OPr N) 60 pC3 (qS e cells pc off len cap x) .normal:=by unfold Lands;kernel_rfl
theorem pO3:(aft prog EG (OPr N) 60 pC3 (qS e cells pc off len cap x)).ob=[(slC (mnI len 1) (mnI len 8) cap,true)]:=by kernel_rfl
noncomputable def pX3:Nat->SV:=fun j=>(aft prog EG (OPr N) 60 pC3 (qS e cells pc off len cap x)).T.getD j .np
theorem pT3:(aft prog EG (OPr N) 60 pC3 (qS e cells pc off len cap x)).T=pT off len cap (off+endC (mnI len 1) cap*8) ((mnI len 8).toNat-(mnI len 1).toNat) (cap-(mnI len 1).toNat) 1 (.i .i64 0) (pX3 N e cells pc off len cap x):=by kernel_rfl
theorem pM3:(aft prog EG (OPr N) 60 pC3 (qS e cells pc off len cap x)).M=[⟨e.1,cells,.ro e.2⟩,⟨50,pc,.rown 19⟩]:=by kernel_rfl
end
def rowN(N:Npr)(u:U8)(n:Nat):List SV:=
 bif decide (prT u=0)then nzC (N.k u) (N.f u)
 else bif decide (prT u=1)||decide (prT u=2)then mxC (N.q u.a3) (prA u n) (prB u n)
 else coC (N.b minIor_ maxIor_ u.a3) (N.q u.a4) (N.q u.a5) (N.q u.a6) (prA u n)
def prgC(N:Npr)(U:Nat->U8):Nat->List SV
 |0=>nzC (N.k (U 0)) (N.f (U 0))
 |k+1=>prgC N U k++rowN N (U (k+1)) (k+1)
theorem rowN_len(N:Npr)(u:U8)(n:Nat):(rowN N u n).length=19:=by
 unfold rowN;cases decide (prT u=0)
 ·cases decide (prT u=1)||decide (prT u=2)<;>rfl
 ·rfl
theorem prgC_len(N:Npr)(U:Nat->U8):∀k,(prgC N U k).length=(k+1)*19
 |0=>rfl
 |k+1=>by unfold prgC;rw[List.length_append,prgC_len N U k,rowN_len];omega
def prgB(N:Npr)(u:U8):Bool:=N.o u&&(N.w u.a3&&(N.w u.a4&&(N.w u.a5&&N.w u.a6)))
theorem u32_small{n:Nat}(h:n<=8):IntKind.u32.wrap (n:Int)=n:=by
 have:n=0\/n=1\/n=2\/n=3\/n=4\/n=5\/n=6\/n=7\/n=8:=by omega
 rcases this with rfl|rfl|rfl|rfl|rfl|rfl|rfl|rfl|rfl<;>decide
theorem sel_M(s:St)(ids:List Nat)(M':List Blk)(v:Nat->Value):(s.sel ids M' v).M=M':=rfl
theorem maxLen_8:9<=maxLen:=by decide
theorem pround{N:Npr}(hO:OracleOk prog (OPr N))(hN:N.p minIor_ maxIor_=true){e:TypeId×(Nat×Nat)}{cells:List SV}{U:Nat->U8}{off len cap o1 l1 c1 i:Nat}{x:Nat->SV}{B:Bs}(hB:B.M.length=1)
  (hi:i<l1) (h7:l1<=7) (hu:u8At cells (o1+i*8)=U (i+1)) (hc:ckAll cells (o1+i*8) u8CK=true) (ho:prgB N (U (i+1))=true) :
  RunsB prog B pBd (pS e cells (prgC N U i) off len cap o1 l1 c1 (i+1) (.si .i64 (i:Int)) x none) .normal (fun t=>∃x',t=pS e cells (prgC N U (i+1)) off len cap o1 l1 c1 (i+1+1) (.si .i64 ((i+1:Nat):Int)) x' none):=by
 unfold prgB at ho;simp only[aTz]at ho;obtain⟨w0,w3,w4,w5,w6⟩:=ho;have hw:IntKind.i64.wrap ((i:Int)+1)=((i+1:Nat):Int):=wrap_s (by omega);have hap:pAp (prgC N U i) (i+1)=true:=by have:=maxLen_8;unfold pAp;simp only[aTz,decide_eq_true_eq];exact⟨by omega,by omega,prgC_len N U i⟩
 have hne:decide (IntKind.u32.wrap ((i+1:Nat):Int)≠0)=true:=dT (by rw[u32_small (by omega)];omega);have hH:ObsOk (pHd N.w cells o1 l1 (i+1) (i:Int)):=by unfold pHd;rw[tN,hu];exact obs_cons w6 (obs_cons w5 (obs_cons w4 (obs_cons hne (obs_cons hne (obs_cons hc (obs_cons (ix_of (by omega) (by omega)) (obs_cons (dT (by omega)) obs_nil)))))))
 have hk:∀n,n<B.M.length->([0,5]:List Nat)[n]? =some n:=fun n hn=>by
  rw[hB]at hn;have:n=0:=by omega
  subst this;rfl
 have hrow:prgC N U (i+1)=prgC N U i++rowN N (U (i+1)) (i+1):=rfl;by_cases t0:prT (U (i+1))=0
 ·have hob:ObsOk (pA N e cells (prgC N U i) off len cap o1 l1 c1 (i+1) (i:Int) x [true,true]).ob:=by rw[pOl,tN,hu];exact ob_app (obs_cons hap (obs_cons w0 (obs_cons (dT t0) obs_nil))) hH
  have hM:=pMl N e cells (prgC N U i) off len cap o1 l1 c1 (i+1) (i:Int) x;rw[tN,hu]at hM;refine RunsB.re (d:=some [true,true]) (o:=[]) (RunsB.sel (RunsP.bs (Lands.runs goodG hO (pLl N e cells (prgC N U i) off len cap o1 l1 c1 (i+1) (i:Int) x) hob)) rfl hM hk fun v=> ?_);refine⟨_,⟨pXl N e cells (prgC N U i) off len cap o1 l1 c1 (i+1) (i:Int) x v,rfl⟩,same_eq ?_ ?_⟩
  ·have hT:=pTTl N e cells (prgC N U i) off len cap o1 l1 c1 (i+1) (i:Int) x v;rw[hw]at hT;exact(hT _).symm
  ·rw[sel_M,hrow];unfold rowN;rw[dT t0];rfl
 by_cases t1:prT (U (i+1))=1
 ·have hob:ObsOk (pA N e cells (prgC N U i) off len cap o1 l1 c1 (i+1) (i:Int) x [true,false,true]).ob:=by rw[pOm,tN,hu];exact ob_app (obs_cons hap (obs_cons w3 (obs_cons (dT t1) (obs_cons (dF t0) obs_nil)))) hH
  have hM:=pMm N e cells (prgC N U i) off len cap o1 l1 c1 (i+1) (i:Int) x;rw[tN,hu]at hM;refine RunsB.re (d:=some [true,false,true]) (o:=[]) (RunsB.sel (RunsP.bs (Lands.runs goodG hO (pLm N e cells (prgC N U i) off len cap o1 l1 c1 (i+1) (i:Int) x) hob)) rfl hM hk fun v=> ?_);refine⟨_,⟨pXm N e cells (prgC N U i) off len cap o1 l1 c1 (i+1) (i:Int) x v,rfl⟩,same_eq ?_ ?_⟩
  ·have hT:=pTTm N e cells (prgC N U i) off len cap o1 l1 c1 (i+1) (i:Int) x v;rw[hw]at hT;exact(hT _).symm
  ·rw[sel_M,hrow];unfold rowN;rw[dF t0,dT t1];rfl
 by_cases t2:prT (U (i+1))=2
 ·have hob:ObsOk (pA N e cells (prgC N U i) off len cap o1 l1 c1 (i+1) (i:Int) x [true,false,false,true]).ob:=by rw[pOn,tN,hu];exact ob_app (obs_cons hap (obs_cons w3 (obs_cons (dT t2) (obs_cons (dF t1) (obs_cons (dF t0) obs_nil))))) hH
  have hM:=pMn N e cells (prgC N U i) off len cap o1 l1 c1 (i+1) (i:Int) x;rw[tN,hu]at hM;refine RunsB.re (d:=some [true,false,false,true]) (o:=[]) (RunsB.sel (RunsP.bs (Lands.runs goodG hO (pLn N e cells (prgC N U i) off len cap o1 l1 c1 (i+1) (i:Int) x) hob)) rfl hM hk fun v=> ?_);refine⟨_,⟨pXn N e cells (prgC N U i) off len cap o1 l1 c1 (i+1) (i:Int) x v,rfl⟩,same_eq ?_ ?_⟩
  ·have hT:=pTTn N e cells (prgC N U i) off len cap o1 l1 c1 (i+1) (i:Int) x v;rw[hw]at hT;exact(hT _).symm
  ·rw[sel_M,hrow];unfold rowN;rw[dF t0,dF t1,dT t2];rfl
 ·have hob:ObsOk (pA N e cells (prgC N U i) off len cap o1 l1 c1 (i+1) (i:Int) x [true,false,false,false]).ob:=by rw[pOc,tN,hu];exact ob_app (obs_cons hap (obs_cons hN (obs_cons w3 (obs_cons (dF t2) (obs_cons (dF t1) (obs_cons (dF t0) obs_nil)))))) hH
  have hM:=pMc N e cells (prgC N U i) off len cap o1 l1 c1 (i+1) (i:Int) x;rw[tN,hu]at hM;refine RunsB.re (d:=some [true,false,false,false]) (o:=[]) (RunsB.sel (RunsP.bs (Lands.runs goodG hO (pLc N e cells (prgC N U i) off len cap o1 l1 c1 (i+1) (i:Int) x) hob)) rfl hM hk fun v=> ?_);refine⟨_,⟨pXc N e cells (prgC N U i) off len cap o1 l1 c1 (i+1) (i:Int) x v,rfl⟩,same_eq ?_ ?_⟩
  ·have hT:=pTTc N e cells (prgC N U i) off len cap o1 l1 c1 (i+1) (i:Int) x v;rw[hw]at hT;exact(hT _).symm
  ·rw[sel_M,hrow];unfold rowN;rw[dF t0,dF t1,dF t2];rfl
end Go.Proofs.YtejcekikbnlllaaGreat
