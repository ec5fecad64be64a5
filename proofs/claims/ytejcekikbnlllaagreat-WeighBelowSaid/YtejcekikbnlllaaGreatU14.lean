/- DensMix by the reckoner; right programs of numbers. The chapter's examples of layer 22. .. -/
import Derived.OpenVars
import Derived.Deep.Slices
import Derived.Test.YtejcekikbnlllaaGreatU13
set_option linter.all false
open Go.Proofs.Tryz(prog)
namespace Bu
open Rx Go
theorem bw_rn{l h:F}{n:Int}(hl:l.k<=h.k):rnB l h (bwF l h n)=true:=by have:=bwF_in (n:=n) hl;unfold rnB;rw[dT this.1,dT this.2];rfl
theorem zs_c(js:List Nat):zsB (fun _=>z64) js=true:=List.all_eq_true.2 fun _ _=>dT zz_k.symm
theorem okNd_1{x y z:F}(hx:rnB z64 one64 x=true)(hy:rnB z64 one64 y=true)(hz:rnB z64 one64 z=true)(p:Int):okNd ⟨1,ndM x y z z64 z64 z64 z64 z64 z64 z64 z64 z64 z64 z64 z64 z64,0,0⟩ p=true:=by show((rnB z64 one64 x&&(rnB z64 one64 y&&(rnB z64 one64 z&&true)))&&(zsB (fun _=>z64) [3,4,5,6,7,8,9,10,11,12,13,14,15]&&(decide ((0:Int)=0)&&decide ((0:Int)=0))))=true;rw[hx,hy,hz,zs_c];rfl
theorem okNd_2{x y z s:F}(hx:rnB z64 one64 x=true)(hy:rnB z64 one64 y=true)(hz:rnB z64 one64 z=true)(hs:rnB z64 one64 s=true)(p:Int):okNd ⟨2,ndM x y z z64 z64 z64 z64 z64 z64 z64 z64 z64 s z64 z64 z64,0,0⟩ p=true:=by show((rnB z64 one64 s&&(rnB z64 one64 x&&(rnB z64 one64 y&&(rnB z64 one64 z&&true))))&&(zsB (fun _=>z64) [3,4,5,6,7,8,9,10,11,13,14,15]&&(decide ((0:Int)=0)&&decide ((0:Int)=0))))=true;rw[hx,hy,hz,hs,zs_c];rfl
theorem okNd_3{a n:F}(ha:rnB minA one64 a=true)(hn:rnB minIo four64 n=true)(p:Int):okNd ⟨3,ndM z64 z64 z64 z64 z64 z64 z64 z64 z64 z64 z64 z64 z64 a n z64,0,0⟩ p=true:=by show(rnB minA one64 a&&(rnB minIo four64 n&&(zsB (fun _=>z64) [0,1,2,3,4,5,6,7,8,9,10,11,12,15]&&(decide ((0:Int)=0)&&decide ((0:Int)=0)))))=true;rw[ha,hn,zs_c];rfl
theorem okNd_4{a e0 e1 e2 k0 k1 k2:F}(ha:rnB minA one64 a=true)(h0:rnB minMt maxMt e0=true)(h1:rnB minMt maxMt e1=true)(h2:rnB minMt maxMt e2=true)(h3:rnB minMt maxMt k0=true)(h4:rnB minMt maxMt k1=true)(h5:rnB minMt maxMt k2=true)(p:Int):okNd ⟨4,ndM z64 z64 z64 z64 z64 z64 e0 e1 e2 k0 k1 k2 z64 a z64 z64,0,0⟩ p=true:=by show(rnB minA one64 a&&((rnB minMt maxMt e0&&(rnB minMt maxMt e1&&(rnB minMt maxMt e2&&(rnB minMt maxMt k0&&(rnB minMt maxMt k1&&(rnB minMt maxMt k2&&true))))))&&(zsB (fun _=>z64) [0,1,2,3,4,5,12,14,15]&&(decide ((0:Int)=0)&&decide ((0:Int)=0)))))=true;rw[ha,h0,h1,h2,h3,h4,h5,zs_c];rfl
def leNd(u:U8):Nd:=⟨leK u,ndM (leF bwF u 0) (leF bwF u 1) (leF bwF u 2) (leF bwF u 3) (leF bwF u 4) (leF bwF u 5) (leF bwF u 6) (leF bwF u 7) (leF bwF u 8) (leF bwF u 9) (leF bwF u 10) (leF bwF u 11) (leF bwF u 12) (leF bwF u 13) (leF bwF u 14) (leF bwF u 15),0,0⟩
theorem okNd_le(u:U8)(p:Int):okNd (leNd u) p=true:=by
 obtain⟨e1,e2,e3,e4⟩:=rk_le;unfold leNd leK leF;cases decide (u.a0.tmod 4=0)
 ·cases decide (u.a0.tmod 4=1)
  ·cases decide (u.a0.tmod 4=2)
   ·exact okNd_4 (bw_rn e2) (bw_rn e4) (bw_rn e4) (bw_rn e4) (bw_rn e4) (bw_rn e4) (bw_rn e4) p
   ·exact okNd_3 (bw_rn e2) (bw_rn e3) p
  ·exact okNd_2 (bw_rn e1) (bw_rn e1) (bw_rn e1) (bw_rn e1) p
 ·exact okNd_1 (bw_rn e1) (bw_rn e1) (bw_rn e1) p
theorem okNd_5{w:F}{a b p:Int}(hw:rnB z64 one64 w=true)(a0:0<=a)(a1:a<p)(b0:0<=b)(b1:b<p):okNd ⟨5,ndM z64 z64 z64 z64 z64 z64 z64 z64 z64 z64 z64 z64 z64 z64 z64 w,a,b⟩ p=true:=by show(rnB z64 one64 w&&(zsB (fun _=>z64) [0,1,2,3,4,5,6,7,8,9,10,11,12,13,14]&&(decide (0<=a)&&(decide (a<p)&&(decide (0<=b)&&decide (b<p))))))=true;rw[hw,zs_c,dT a0,dT a1,dT b0,dT b1];rfl
theorem okNd_6{n t0 t1 t2:F}{a p:Int}(hn:rnB minIo four64 n=true)(h0:rnB z64 one64 t0=true)(h1:rnB z64 one64 t1=true)(h2:rnB z64 one64 t2=true)(a0:0<=a)(a1:a<p):okNd ⟨6,ndM z64 z64 z64 t0 t1 t2 z64 z64 z64 z64 z64 z64 z64 z64 n z64,a,0⟩ p=true:=by show(decide ((6:Int)=6)&&(rnB minIo four64 n&&((rnB z64 one64 t0&&(rnB z64 one64 t1&&(rnB z64 one64 t2&&true)))&&(zsB (fun _=>z64) [0,1,2,6,7,8,9,10,11,12,13,15]&&(decide (0<=a)&&(decide (a<p)&&decide ((0:Int)=0)))))))=true;rw[hn,h0,h1,h2,zs_c,dT a0,dT a1];rfl
theorem okPg_mk{cs:List SV}{len:Nat}(h1:(plains cs).isSome=true)(h2:1<=len)(h3:len<=4096)(h4:∀i,i<len->okAt cs i=true):okPg cs len=true:=by unfold okPg;rw[h1,dT h2,dT h3,List.all_eq_true.2 fun i hi=>h4 i (List.mem_range.1 hi)];rfl
theorem okAt_mk{cs:List SV}{i:Nat}(h1:ckAll cs (i*19) ndCK=true)(h2:okNd (ndR cs (i*19)) i=true):okAt cs i=true:=by unfold okAt;rw[h1,h2];rfl
end Bu
namespace Go.Proofs.YtejcekikbnlllaaGreat
open Go.RowKit Bu Rx
def eqIv(a b:I):Bool:=decide (a.lo.k=b.lo.k)&&(decide (a.hi.k=b.hi.k)&&true)
def dirU(N:Npr)(x y z:Int):Obs:=[(N.p d64 one64,true),(N.w z,true),(N.p mone64 one64,true),(N.w y,true),(N.p mone64 one64,true),(N.w x,true)]
def eiO(f g:OF):OF:=fun a M ds=>match f a M ds with
 |some r=>some r
 |none=>g a M ds
theorem eiO_ok{P:Program}{g:FuncId}{f h:OF}(hf:OfOk P g f)(hh:OfOk P g h):OfOk P g (eiO f h):=by
 intro args M ds x M' ds' ob hk ho;unfold eiO at hk;split at hk
 ·rename_i r hr;cases hk;exact hf args M ds x M' ds' ob hr ho
 ·exact hh args M ds x M' ds' ob hk ho
def kNilR:List SV->Dec->Option (SV×Dec×Obs)
 | [.o (.slice none 0 0)],ds=>some (.b false,ds,[])
 |_,_=>none
theorem rgtNil:valR ((run prog EG (lookO []) 60).1 50 [.o (.slice none 0 0)] [] (some []))=some (.b false,some [],[]):=by kernel_rfl
theorem nilRG:PlainOk prog 50 kNilR:=by
 intro args ds x ds' ob h ho;unfold kNilR at h;split at h
 ·simp only[sIz,pIz]at h;obtain⟨rfl,_,rfl⟩:=h;exact⟨[.slice none 0 0],_,rfl,rfl,fun w=>calls_of_val goodG (OracleOk.nil _) 60 rgtNil ob_n rfl rfl w⟩
 ·cases h
end Go.Proofs.YtejcekikbnlllaaGreat
namespace Bu
open Rx Go
theorem mul_f{a b r:I}(h:KkR.mul 0 a b=(r,0)):Fact (.mul 0 1) [a,b] r:=by
 have st:(stepK KkR (.mul 0 1) [a,b] 0).2=0:=by show(KkR.mul 0 a b).2=0;rw[h]
 have f:=(step_fact st).2.2
 rwa [show(stepK KkR (.mul 0 1) [a,b] 0).1=r from by show(KkR.mul 0 a b).1=r;rw[h]]at f
theorem add_f{a b r:I}(h:KkR.add 0 a b=(r,0)):Fact (.add 0 1) [a,b] r:=by
 have st:(stepK KkR (.add 0 1) [a,b] 0).2=0:=by show(KkR.add 0 a b).2=0;rw[h]
 have f:=(step_fact st).2.2
 rwa [show(stepK KkR (.add 0 1) [a,b] 0).1=r from by show(KkR.add 0 a b).1=r;rw[h]]at f
theorem sub_f{a b r:I}(h:KkR.sub 0 a b=(r,0)):Fact (.sub 0 1) [a,b] r:=by
 have st:(stepK KkR (.sub 0 1) [a,b] 0).2=0:=by show(KkR.sub 0 a b).2=0;rw[h]
 have f:=(step_fact st).2.2
 rwa [show(stepK KkR (.sub 0 1) [a,b] 0).1=r from by show(KkR.sub 0 a b).1=r;rw[h]]at f
theorem mul_pt{a b r:I}{x y:Rat}(h:KkR.mul 0 a b=(r,0))(hx:Mem a x)(hy:Mem b y):Mem r (x*y):=p_mul (mul_f h) hx hy
theorem add_pt{a b r:I}{x y:Rat}(h:KkR.add 0 a b=(r,0))(hx:Mem a x)(hy:Mem b y):Mem r (x+y):=p_add (add_f h) hx hy
theorem sub_pt{a b r:I}{x y:Rat}(h:KkR.sub 0 a b=(r,0))(hx:Mem a x)(hy:Mem b y):Mem r (x-y):=p_sub (sub_f h) hx hy
theorem pt_mem(x:F):Mem (pt x) x.q:=⟨Rat.le_refl,Rat.le_refl⟩
theorem one_mem':Mem (pt one64) 1:=by have:=pt_mem one64;rwa [one_q]at this
theorem okAt_n{cs:List SV}{i:Nat}{n:Nd}(h1:ckAll cs (i*19) ndCK=true)(hn:ndR cs (i*19)=n)(h2:okNd n i=true):okAt cs i=true:=okAt_mk h1 (by rw[hn];exact h2)
end Bu
namespace Go.Proofs.YtejcekikbnlllaaGreat
open Go.RowKit Bu Rx
theorem bw_up(n:Int):decide ((bwF d64 one64 n).k<=z64.k)=false:=by refine dF fun h=> ?_;have h1:=(bwN2 (n:=n)).1;have h2:=q_le.2 h;have h3:z64.q=0:=zero0_q;rw[h3]at h2;grind
theorem dirU_ok{x y z:Int}(hx:wN32 x=true)(hy:wN32 y=true)(hz:wN32 z=true):ObsOk (dirU NprR x y z):=by obtain⟨_,_,_,_,p1,p2⟩:=rk_p;exact ob_c p2 (ob_c hz (ob_c p1 (ob_c hy (ob_c p1 (ob_c hx ob_n)))))
theorem fr_rn{n:Int}(h:wN32 n=true):rnB z64 one64 (frT n)=true:=by
 obtain⟨t,e1,t0,t1,_⟩:=frT_ok h;have eT:frT n=t:=by unfold frT;rw[e1];exact toF_F t
 rw[eT];have zk:z64.k=0:=z64_0;unfold rnB;rw[dT (show z64.k<=t.k by omega),dT t1];rfl
theorem u32_w{n:Int}(h:(Lit.int .u32 n).wf=true):wN32 n=true:=by
 have:0<=n/\n<=4294967295:=by simpa[Lit.wf,IntKind.min,IntKind.max,IntKind.signed,IntKind.bits]using h
 exact dT this
end Go.Proofs.YtejcekikbnlllaaGreat
namespace Go.Proofs.YtejcekikbnlllaaGreat
open Go.ChangeShapes Go.WideShapes Go.ChangeAt Go.RowKit Go.Deep Go.WideElems
section
variable {H:Type} {enc:TypeId×Value->H} {P:Program}
theorem all_stays(hl:laidOutB P=true){W W':World}(hb:Below W.heap.size W W'){sp:Nat->Bool}:∀{ts:List TypeId}{vs:List Value}{ds:List (DataW H)}{ps:List MemPlace},
  (∀t∈ts,P.readableRec t=true/\t<P.types.size)->DataW.TrodAll enc P W 0 (fun _=>true) true ts vs ds ps->(∀p∈ps,sp p.block=true)->DataW.TrodAll enc P W' 0 sp true ts vs ds ps
 | [], _, _, _, _, h, _ => by obtain⟨rfl,rfl,rfl⟩:=trodAll_nil h;exact trodAll_mk0
 | t :: ts, _, _, _, ht, h, hs => by
   have hlt:=h.lt;obtain⟨v,vs1,d,ds1,a,b,rfl,rfl,rfl,⟨n,h1⟩,h2⟩:=trodAll_cons h;have hr:=ht t (List.mem_cons_self ..);exact⟨a,b,⟨n,DataW.trod_stays (kids_book hl hr.1) (book_sized hr.1) (fun h=>by cases h) ⟨hr.2,book_self t⟩ h1 (fun x hx=>hb.same (hlt x (List.mem_append_left _ hx))) (fun x hx=>hs x (List.mem_append_left _ hx))⟩,
    all_stays hl hb (fun t h=>ht t (List.mem_cons_of_mem _ h)) h2 (fun p hp=>hs p (List.mem_append_right _ hp)),rfl⟩
theorem post_kept{f:Func}{s:ChangeSpec}{apart fresh handsOn again:Bool}{W W':World}{args:Array Value}{v:Value}{ds gs:List (DataW H)}{before:List MemPlace}
  (hl:laidOutB P=true) (hts:∀t∈f.params.toList,P.readableRec t=true/\t<P.types.size) (hvs:s.vars=[])
  (hW:DataW.Whole enc P f.params.toList s.vars apart W args.toList ds gs before)
  (hres:∀(b:Nat)(sp:Nat->Bool)(hd:Bool),DataW.TrodAll enc P W' b sp hd f.resultTypes.toList (v.resultList f.resultTypes.size) (s.fn H (ds++gs)).results [])
  (hda:(s.fn H (ds++gs)).args=ds) (hdv:(s.fn H (ds++gs)).vars=[])
  (hb:Below W.heap.size W W')
  (hok:∀(j:Nat)(t:TypeId)(r:Value),f.resultTypes[j]? =some t->(v.resultList f.resultTypes.size)[j]? =some r->Value.okWide P W' .any 0 t r) :
  s.post enc P f apart fresh handsOn again W args v W':=by
 have hW':=hW;obtain⟨p,q,hA,hV,rfl,hfz,hnd⟩:=hW;rw[hvs]at hV;obtain⟨rfl,rfl⟩:=trodVars_none hV;have hlt:∀x∈p,x.block<W.heap.size:=hA.lt;have stay:∀sp:Nat->Bool,(∀x∈p,sp x.block=true)->DataW.TrodAll enc P W' 0 sp true f.params.toList args.toList ds p:=fun sp h=>all_stays hl hb hts hA h;have none_:∀sp:Nat->Bool,DataW.TrodVars enc P W' sp s.vars [] []:=fun sp=>by rw[hvs];rfl
 refine⟨ds,[],p++ [],[],p,[],hW',hres _ _ _,?_,?_,World.keptBut_mono (fun x hx=>⟨hx,?_⟩) (hb.frame (· ∈p++ [])),fun _=> ?_⟩
 ·rw[hda];exact stay _ (fun x hx=>by simpa using hlt x hx)
 ·rw[hdv];exact none_ _
 ·rw[List.append_nil]at hx;exact .inr (.inl hx)
 ·refine⟨hok,_,_,([]++p)++ [],⟨[]++p,[],trodAll_append (stay _ (fun _ _=>rfl)) (hres _ _ _),none_ _,rfl,?_,?_⟩,?_⟩
  ·intro b off hp;have hp':MemPlace.cell b off∈p++ []:=by simpa using hp
   rw[hb.frozen (hlt _ (by simpa using hp))];exact hfz b off hp'
  ·intro ha;have:=hnd ha
   simpa using this
  ·intro x hx _
   simpa using hx
theorem open_rows{t a e:TypeId}{n:Nat}{k:IntKind}(ht:P.underlying t=some (.slice a))(hT:ArrT P a e n k){W:World}{base:Nat}{v:Value}{d:DataW H}{ps:List MemPlace}(hval:Value.okWide P W .any base t v)(hd:DataW.Trod enc P W 0 (fun _=>true) true t v d ps) :
  v= .slice none 0 0\/∃(r off len cap:Nat)(cv:Array Value)(el:TypeId)(z:Nat×Nat),v= .slice (some ⟨r,off,none⟩) len cap/\len<=cap/\W.heap[r]? =some (.cells cv el z)/\∀i,i<len->∀j,j<n->∃x:Int,cv[off+(i*n+j)]? =some (.int k x)/\(Lit.int k x).wf=true:=by
 obtain⟨fuel,hf⟩:=hd;simp only[Value.okWide,ht]at hval;rcases open_slice ht hf with⟨hc,_⟩|⟨ad,len,cap,m,n',D,Pl,hc,hb,hlc,hm,hmm,hx,hel⟩
 ·left;cases v<;>simp_all [Cell.okWide,Cell.ok,Value.cells]
 ·right;have hv:v= .slice (some ad) len cap:=by cases v<;>simp_all [Cell.okWide,Cell.ok,Value.cells]
  subst hv;have hh:W.has P .any base ad a cap:=by
   have:Cell.ok P W .any base t (.slice (some ad) len cap):=by simpa[Cell.okWide,ht]using hval
   simp only[Cell.ok,ht]at this;exact this.2.2
  obtain⟨_,hspot,row,cells,hshape,_⟩:=hh;obtain⟨r,off,spot⟩:=ad;simp only at hspot;subst hspot;unfold World.shape? at hshape;split at hshape
  ·rename_i cv el z hheap;refine⟨r,off,len,cap,cv,el,z,rfl,hlc,hheap,fun i hi j hj=> ?_⟩;have hm':m=cap:=by simpa using hmm
   obtain⟨cs',h1,h2⟩:=hel i (by omega);rw[hT.ct]at h1;obtain⟨_,hlen,hcell⟩:=World.cells?_some h1;obtain⟨xs,m2,_,hx2,hl2,hn2,he2⟩:=DataW.trod_array hT.ar h2;have h3:=he2 j hj;rw[hT.ce,Nat.mul_one]at h3;obtain⟨x,hx3⟩:∃x,xs[j]? =some x:=⟨xs[j],List.getElem?_eq_getElem (by omega)⟩;rw[hx3]at h3;obtain⟨y,c1,c2,c3⟩:=DataW.trod_int hT.el h3;refine⟨y,?_,c3⟩;have h4:=hcell j hj;have h5:cs'[j]? =some (.int k y):=by
    have:=congrArg (·[0]?) c1
    simpa using this
   rw[h5,add_add]at h4;have h6:(⟨r,off,none⟩:Addr).add (i*n+j)=⟨r,off+(i*n+j),none⟩:=Rx.Addr_add _ _ _;rw[h6]at h4
   simpa[World.cell?,hheap]using h4
  ·cases hshape
end
end Go.Proofs.YtejcekikbnlllaaGreat
namespace Go.Proofs.YtejcekikbnlllaaGreat
open Go.RowKit Bu Rx
theorem ofVs_get:∀(l:List Value)(j:Nat),(ofVs l)[j]? =(l[j]?).map ofV
 | [],j=>by simp[ofVs]
 |v::l,0=>by simp[ofVs]
 |v::l,j+1=>by simp only[ofVs,List.getElem?_cons_succ];exact ofVs_get l j
theorem u8_cells{cs:List SV}{o:Nat}(h:∀t,t<8->∃x:Int,cs[o+t]? =some (.i .u32 x)/\wN32 x=true):ckAll cs o u8CK=true/\(u8At cs o).ok=true:=by
 obtain⟨x0,e0,w0⟩:=h 0 (by omega);obtain⟨x1,e1,w1⟩:=h 1 (by omega);obtain⟨x2,e2,w2⟩:=h 2 (by omega);obtain⟨x3,e3,w3⟩:=h 3 (by omega);obtain⟨x4,e4,w4⟩:=h 4 (by omega);obtain⟨x5,e5,w5⟩:=h 5 (by omega);obtain⟨x6,e6,w6⟩:=h 6 (by omega);obtain⟨x7,e7,w7⟩:=h 7 (by omega);rw[Nat.add_zero]at e0;constructor
 ·unfold u8CK;simp only[ckAll,ckOk,Nat.add_assoc,Nat.reduceAdd,e0,e1,e2,e3,e4,e5,e6,e7,decide_true,Bool.and_self]
 ·unfold u8At U8.ok;simp only[inAt,e0,e1,e2,e3,e4,e5,e6,e7,w0,w1,w2,w3,w4,w5,w6,w7,Bool.and_self]
theorem rows_mem{W:World}{r off len cap:Nat}{cv:Array Value}{el:TypeId}{z:Nat×Nat}(hh:W.heap[r]? =some (.cells cv el z))(hc:∀i,i<len->∀j,j<8->∃x:Int,cv[off+(i*8+j)]? =some (.int .u32 x)/\(Lit.int .u32 x).wf=true) :
  ∃(m:Nms)(cells:List SV),MemAt m W [⟨el,cells,.ro z⟩]/\m 0=some r/\prInB NprR ((cells.drop off).take (len*8)) len=true:=by
 have hr:r<W.heap.size:=(Array.getElem?_eq_some_iff.1 hh).1;refine⟨⟨fun n=>if n=0 then some r else none,fun _=>0⟩,ofVs cv.toList,⟨⟨fun n q hq=> ?_⟩,fun n n' q _ _ h1 h2=> ?_,fun n b hb=> ?_,fun n q hq=> ?_⟩,rfl,?_⟩
 ·have hq':(if n=0 then some r else none)=some q:=hq;split at hq'
  ·cases hq';exact hr
  ·cases hq'
 ·have h1':(if n=0 then some r else none)=some q:=h1;have h2':(if n'=0 then some r else none)=some q:=h2;by_cases e1:n=0
  ·by_cases e2:n'=0
   ·rw[e1,e2]
   ·rw[if_neg e2]at h2';cases h2'
  ·rw[if_neg e1]at h1';cases h1'
 ·have hn:n=0:=by
   rcases Nat.lt_or_ge n 1 with h'|h'
   ·omega
   ·rw[List.getElem?_eq_none (by simpa using h')]at hb;cases hb
  subst hn;simp only[List.getElem?_cons_zero,sIz]at hb;subst hb;exact⟨r,rfl,BlkAt.mk_ro (ofVs_ids _) (dens_ofVs _) (by simpa using hh)⟩
 ·have hq':(if n=0 then some r else none)=some q:=hq;split at hq'
  ·rename_i h0;subst h0;exact Nat.lt_add_one 0
  ·cases hq'
 ·refine List.all_eq_true.2 fun j hj=> ?_;have hj':=List.mem_range.1 hj;have h:=u8_cells (cs:=((ofVs cv.toList).drop off).take (len*8)) (o:=j*8) fun t ht=>by
   obtain⟨x,h1,h2⟩:=hc j (by omega) t ht;refine⟨x,?_,u32_w h2⟩;rw[List.getElem?_take,if_pos (by omega),List.getElem?_drop,ofVs_get];have h3:cv.toList[off+(j*8+t)]? =some (.int .u32 x):=by simpa using h1
   rw[h3];rfl
  rw[aTz];refine⟨h.1,?_⟩;have h2:=h.2;unfold prgB;generalize u8At (((ofVs cv.toList).drop off).take (len*8)) (j*8)=u at h2;have h3:=h2;unfold U8.ok at h2;simp only[aTz]at h2;obtain⟨w0,w1,w2,w3,w4,w5,w6,w7⟩:=h2;show(u.ok&&(wN32 u.a3&&(wN32 u.a4&&(wN32 u.a5&&wN32 u.a6))))=true;rw[h3,w3,w4,w5,w6];rfl
theorem roundA1{N:Nde}(hO:OracleOk prog (OD N)){e:TypeId}{cs cells lc:List SV}{v u:V3}{off len cap i:Nat}{cos:I}{x:Nat->SV}(K:OkPg cs len)(hca:CellsAt cells off cs)(hid:idsLts 0 cells=true)
  (hb:nodB N cos (lfR N.g v u) (lfRo N.go v u) (fun j=>(chL (allF N cos (lfR N.g v u) cs) i).getD j Ch.zero) (ndR cs (i*19))=true) (hi:i<len) (hl:ChRow (chF (allF N cos (lfR N.g v u) cs)) len i lc) :
  RunsP prog aBd (aS (preA e cells v u) 3 off len cap cos lfA (.si .i64 (i:Int)) x lc none) .normal (fun t=>∃y lc',ChRow (chF (allF N cos (lfR N.g v u) cs)) len (i+1) lc'/\t=aS (preA e cells v u) 3 off len cap cos lfA (.si .i64 ((i+1:Nat):Int)) y lc' none):=by
 have hnx:=hl.next hi;obtain⟨_,hR⟩:=K.at hca hi;have hnd:=K.nd i hi;have hH:=hd_ok K hca hi;have hw:IntKind.i64.wrap ((i:Int)+1)=((i+1:Nat):Int):=wrap_s (by have:=K.hi;omega);have hst:decide (0+i*4+4<=lc.length)=true:=dT (by rw[hl.l];omega);have hix:ixB (i:Int) len=true:=ix_of (by omega) (by omega);have hg:∀{a:Int},0<=a->a<i->(chL (allF N cos (lfR N.g v u) cs) i).getD a.toNat Ch.zero=chAt lc (0+a.toNat*4):=fun h0 h1=>by rw[(hl.at h0 h1).1];exact chL_get _ (by omega)
 have hpre:∀b∈preA e cells v u,idsLts 0 b.cells=true:=fun b hb=>by simp only[preA,List.mem_cons,List.not_mem_nil,or_false]at hb;rcases hb with rfl|rfl|rfl<;>first|exact hid|rfl
 unfold nodB at hb;rw[aTz,decide_eq_true_eq]at hb;obtain⟨hb1,hb2⟩:=hb;generalize hcv:chF (allF N cos (lfR N.g v u) cs) i=cv at hnx;have hcv':(nodC N cos (lfR N.g v u) (fun j=>(chL (allF N cos (lfR N.g v u) cs) i).getD j Ch.zero) (ndR cs (i*19))).1=cv:=hcv;by_cases h5:(ndR cs (i*19)).k=5
 ·obtain⟨⟨a0,a1⟩,b0,b1⟩:=okNd_mix hnd h5;have hC:nodC N cos (lfR N.g v u) (fun j=>(chL (allF N cos (lfR N.g v u) cs) i).getD j Ch.zero) (ndR cs (i*19))=mixC N.K ((ndR cs (i*19)).f 15) (chsAt lc (ndR cs (i*19)).a.toNat) (chsAt lc (ndR cs (i*19)).b.toNat):=by unfold nodC chsAt;rw[dT h5,cT];simp only[hg a0 a1,hg b0 b1]
  rw[hC]at hb2 hcv';have hob:ObsOk (aA N e cells lc v u off len cap cos i x [true,true,false]).ob:=by rw[aOm,tN,hR];obtain⟨_,p1,_⟩:=hl.at a0 a1;obtain⟨_,q1,_⟩:=hl.at b0 b1;exact ob_app (obs_cons hst (obs_cons hix (obs_cons (ne_0 hb2) (obs_cons q1 (obs_cons (ix_of b0 (by omega)) (obs_cons p1 (obs_cons (ix_of a0 (by omega)) (obs_cons (dT h5) obs_nil)))))))) hH
  have hM:=cut_M (aCm N e cells lc v u off len cap cos i x (fun _=>undef));rw[tN,hR,Nat.zero_add]at hM;exact RunsP.re (d:=some [true,true,false]) (o:=[]) ((round_fin (pre:=preA e cells v u) (lf:=lfA) (k':=3) (off:=off) (len:=len) (cap:=cap) (cos:=cos) (j:=((i+1:Nat):Int)) (lc':=putRow lc (i*4) cv.cells) (Lands.runs goodG hO (aLm N e cells lc v u off len cap cos i x) hob) (by show(preA e cells v u++aTail cos lc).length<=6;simp[preA,aTail]) (aXm N e cells lc v u off len cap cos i x) (fun vv=>by have hT:=cut_T (aCm N e cells lc v u off len cap cos i x vv);rw[hw]at hT;exact hT) (by rw[<-hcv'];exact hM) hpre hnx.d).mono fun t ⟨y,ht⟩=>⟨y,_,hnx,ht⟩)
 rw[dF h5,cF]at hb1;by_cases h6:(ndR cs (i*19)).k=6
 ·obtain⟨a0,a1⟩:=okNd_coat hnd h6;have hC:nodC N cos (lfR N.g v u) (fun j=>(chL (allF N cos (lfR N.g v u) cs) i).getD j Ch.zero) (ndR cs (i*19))=coatC N.K (N.D cos ⟨(ndR cs (i*19)).f 14,(ndR cs (i*19)).f 14⟩).1 (chsAt lc (ndR cs (i*19)).a.toNat):=by unfold nodC chsAt;rw[dF h5,dT h6,cF,cT];simp only[hg a0 a1]
  rw[hC]at hb2 hcv';rw[dT h6,cT,aTz,decide_eq_true_eq]at hb1;have hob:ObsOk (aA N e cells lc v u off len cap cos i x [true,false,true,false,false]).ob:=by rw[aOc,tN,hR];obtain⟨_,_,p2,p3⟩:=hl.at a0 a1;exact ob_app (obs_cons hst (obs_cons hix (obs_cons (ne_0 hb2) (obs_cons p3 (obs_cons (ix_of a0 (by omega)) (obs_cons p2 (obs_cons (ix_of a0 (by omega)) (obs_cons (ne_0 hb1.2) obs_nil)))))))) (ob_app (ob_app (obsB_ok hb1.1) (obs_cons (dT h6) (obs_cons (dF h5) obs_nil))) hH)
  have hM:=cut_M (aCc N e cells lc v u off len cap cos i x (fun _=>undef));rw[tN,hR,Nat.zero_add]at hM;exact RunsP.re (d:=some [true,false,true,false,false]) (o:=[]) ((round_fin (pre:=preA e cells v u) (lf:=lfA) (k':=3) (off:=off) (len:=len) (cap:=cap) (cos:=cos) (j:=((i+1:Nat):Int)) (lc':=putRow lc (i*4) cv.cells) (Lands.runs goodG hO (aLc N e cells lc v u off len cap cos i x) hob) (by show(preA e cells v u++aTail cos lc).length<=6;simp[preA,aTail]) (aXc N e cells lc v u off len cap cos i x) (fun vv=>by have hT:=cut_T (aCc N e cells lc v u off len cap cos i x vv);rw[hw]at hT;exact hT) (by rw[<-hcv'];exact hM) hpre hnx.d).mono fun t ⟨y,ht⟩=>⟨y,_,hnx,ht⟩)
 ·rw[dF h6,cF]at hb1;have hC:nodC N cos (lfR N.g v u) (fun j=>(chL (allF N cos (lfR N.g v u) cs) i).getD j Ch.zero) (ndR cs (i*19))=(⟨((lfR N.g v u) (ndR cs (i*19))).1,Ch.zero.m⟩,((lfR N.g v u) (ndR cs (i*19))).2):=by unfold nodC;rw[dF h5,dF h6,cF,cF]
  rw[hC]at hb2 hcv';have hob:ObsOk (aA N e cells lc v u off len cap cos i x [true,false,false,false]).ob:=by rw[aOl,tN,hR];exact ob_app (obs_cons hst (obs_cons hix (obs_cons (ne_0 hb2) obs_nil))) (ob_app (ob_app (ob_app (obsB_ok hb1) obs_nil) (obs_cons (dF h6) (obs_cons (dF h5) obs_nil))) hH)
  have hM:=cut_M (aCl N e cells lc v u off len cap cos i x (fun _=>undef));rw[tN,hR,Nat.zero_add]at hM;exact RunsP.re (d:=some [true,false,false,false]) (o:=[]) ((round_fin (pre:=preA e cells v u) (lf:=lfA) (k':=3) (off:=off) (len:=len) (cap:=cap) (cos:=cos) (j:=((i+1:Nat):Int)) (lc':=putRow lc (i*4) cv.cells) (Lands.runs goodG hO (aLl N e cells lc v u off len cap cos i x) hob) (by show(preA e cells v u++aTail cos lc).length<=6;simp[preA,aTail]) (aXl N e cells lc v u off len cap cos i x) (fun vv=>by have hT:=cut_T (aCl N e cells lc v u off len cap cos i x vv);rw[hw]at hT;exact hT) (by rw[<-hcv'];exact hM) hpre hnx.d).mono fun t ⟨y,ht⟩=>⟨y,_,hnx,ht⟩)
section
variable (N:Nde) (e:TypeId) (cells lc:List SV) (v u:V3) (off len cap:Nat) (cos:I) (i:Int) (x:Nat->SV)
def zCs:SV:= .agg [.fl (toF 0),.fl (toF 0),.fl (toF 0),.fl (toF 0)]
theorem daL_m:Lands prog EG (OD N) 60 aBd (aS (preA e cells v u) 3 off len cap cos lfA (.si .i64 i) x lc (some [true,true,true])) .ret:=by unfold Lands;kernel_rfl
theorem daO_m:(aA N e cells lc v u off len cap cos i x [true,true,true]).ob=[((mixC N.K ((ndR cells (off+i.toNat*19)).f 15) (chsAt lc (ndR cells (off+i.toNat*19)).a.toNat) (chsAt lc (ndR cells (off+i.toNat*19)).b.toNat)).2 != 0,true),(ckAll lc (0+(ndR cells (off+i.toNat*19)).b.toNat*4) chCK,true),(ixB (ndR cells (off+i.toNat*19)).b (i.toNat-0),true),(ckAll lc (0+(ndR cells (off+i.toNat*19)).a.toNat*4) chCK,true),(ixB (ndR cells (off+i.toNat*19)).a (i.toNat-0),true),(decide ((ndR cells (off+i.toNat*19)).k=5),true)]++aHdO cells off len i:=by kernel_rfl
theorem daR_m:resultS prog Tryz.f68 (aA N e cells lc v u off len cap cos i x [true,true,true])=some (.tup [zCs,.si .i64 (mixC N.K ((ndR cells (off+i.toNat*19)).f 15) (chsAt lc (ndR cells (off+i.toNat*19)).a.toNat) (chsAt lc (ndR cells (off+i.toNat*19)).b.toNat)).2]):=by kernel_rfl
theorem daM_m:(aA N e cells lc v u off len cap cos i x [true,true,true]).M=preA e cells v u++(aA N e cells lc v u off len cap cos i x [true,true,true]).M.drop 3:=by kernel_rfl
theorem daL_d:Lands prog EG (OD N) 60 aBd (aS (preA e cells v u) 3 off len cap cos lfA (.si .i64 i) x lc (some [true,false,true,true,true])) .ret:=by unfold Lands;kernel_rfl
theorem daO_d:(aA N e cells lc v u off len cap cos i x [true,false,true,true,true]).ob=((N.D cos ⟨(ndR cells (off+i.toNat*19)).f 14,(ndR cells (off+i.toNat*19)).f 14⟩).2 != 0,true)::((N.D cos ⟨(ndR cells (off+i.toNat*19)).f 14,(ndR cells (off+i.toNat*19)).f 14⟩).2 != 0,true)::((N.dO cos ⟨(ndR cells (off+i.toNat*19)).f 14,(ndR cells (off+i.toNat*19)).f 14⟩++ [(decide ((ndR cells (off+i.toNat*19)).k=6),true),(decide ((ndR cells (off+i.toNat*19)).k=5),false)])++aHdO cells off len i):=by kernel_rfl
theorem daR_d:resultS prog Tryz.f68 (aA N e cells lc v u off len cap cos i x [true,false,true,true,true])=some (.tup [zCs,.si .i64 (N.D cos ⟨(ndR cells (off+i.toNat*19)).f 14,(ndR cells (off+i.toNat*19)).f 14⟩).2]):=by kernel_rfl
theorem daM_d:(aA N e cells lc v u off len cap cos i x [true,false,true,true,true]).M=preA e cells v u++(aA N e cells lc v u off len cap cos i x [true,false,true,true,true]).M.drop 3:=by kernel_rfl
theorem daL_c:Lands prog EG (OD N) 60 aBd (aS (preA e cells v u) 3 off len cap cos lfA (.si .i64 i) x lc (some [true,false,true,false,true])) .ret:=by unfold Lands;kernel_rfl
theorem daO_c:(aA N e cells lc v u off len cap cos i x [true,false,true,false,true]).ob=[((coatC N.K (N.D cos ⟨(ndR cells (off+i.toNat*19)).f 14,(ndR cells (off+i.toNat*19)).f 14⟩).1 (chsAt lc (ndR cells (off+i.toNat*19)).a.toNat)).2 != 0,true),(ckAll lc (0+(ndR cells (off+i.toNat*19)).a.toNat*4+2) [.f,.f],true),(ixB (ndR cells (off+i.toNat*19)).a (i.toNat-0),true),(ckAll lc (0+(ndR cells (off+i.toNat*19)).a.toNat*4) [.f,.f],true),(ixB (ndR cells (off+i.toNat*19)).a (i.toNat-0),true),((N.D cos ⟨(ndR cells (off+i.toNat*19)).f 14,(ndR cells (off+i.toNat*19)).f 14⟩).2 != 0,false)]++((N.dO cos ⟨(ndR cells (off+i.toNat*19)).f 14,(ndR cells (off+i.toNat*19)).f 14⟩++ [(decide ((ndR cells (off+i.toNat*19)).k=6),true),(decide ((ndR cells (off+i.toNat*19)).k=5),false)])++aHdO cells off len i):=by kernel_rfl
theorem daR_c:resultS prog Tryz.f68 (aA N e cells lc v u off len cap cos i x [true,false,true,false,true])=some (.tup [zCs,.si .i64 (coatC N.K (N.D cos ⟨(ndR cells (off+i.toNat*19)).f 14,(ndR cells (off+i.toNat*19)).f 14⟩).1 (chsAt lc (ndR cells (off+i.toNat*19)).a.toNat)).2]):=by kernel_rfl
theorem daM_c:(aA N e cells lc v u off len cap cos i x [true,false,true,false,true]).M=preA e cells v u++(aA N e cells lc v u off len cap cos i x [true,false,true,false,true]).M.drop 3:=by kernel_rfl
theorem daL_l:Lands prog EG (OD N) 60 aBd (aS (preA e cells v u) 3 off len cap cos lfA (.si .i64 i) x lc (some [true,false,false,true])) .ret:=by unfold Lands;kernel_rfl
theorem daO_l:(aA N e cells lc v u off len cap cos i x [true,false,false,true]).ob=[((lfR N.g v u (ndR cells (off+i.toNat*19))).2 != 0,true)]++(((lfRo N.go v u (ndR cells (off+i.toNat*19))++ [])++ [(decide ((ndR cells (off+i.toNat*19)).k=6),false),(decide ((ndR cells (off+i.toNat*19)).k=5),false)])++aHdO cells off len i):=by kernel_rfl
theorem daR_l:resultS prog Tryz.f68 (aA N e cells lc v u off len cap cos i x [true,false,false,true])=some (.tup [zCs,.si .i64 (lfR N.g v u (ndR cells (off+i.toNat*19))).2]):=by kernel_rfl
theorem daM_l:(aA N e cells lc v u off len cap cos i x [true,false,false,true]).M=preA e cells v u++(aA N e cells lc v u off len cap cos i x [true,false,false,true]).M.drop 3:=by kernel_rfl
end
theorem loop2r{P:Program}{body:Code}{id:Nat}{Φ:St->Prop}(S:Nat->(Nat->SV)->List SV->St)(I:Nat->List SV->Prop)(n:Nat)(hr:∀i x y,i<n->I i y->RunsP P body (S i x y) .normal (fun t=>∃x' y',I (i+1) y'/\t=S (i+1) x' y'))
  (he:∀x y,I n y->RunsP P body (S n x y) .ret Φ) (x:Nat->SV) (y:List SV) (h0:I 0 y):RunsP P (.block id (.loop body)) (S 0 x y) .ret Φ:=
 loop_ret (fun i(p:(Nat->SV)×List SV)=>S i p.1 p.2) (fun i p=>I i p.2) n (fun i p hi h=>(hr i p.1 p.2 hi h).mono fun t ⟨x',y',h1,h2⟩=>⟨(x',y'),h1,h2⟩) (fun p h=>he p.1 p.2 h) (x,y) h0
def nodE(N:Nde)(cos:I)(lf:Nd->I×Int)(l:Nat->Ch)(n:Nd):Int:=
 bif decide (n.k=6)then(bif decide ((N.D cos ⟨n.f 14,n.f 14⟩).2=0)then(nodC N cos lf l n).2 else(N.D cos ⟨n.f 14,n.f 14⟩).2)else(nodC N cos lf l n).2
def nodP(N:Nde)(cos:I)(lo:Nd->Obs)(n:Nd):Bool:=bif decide (n.k=5)then true else bif decide (n.k=6)then Bu.obsB (N.dO cos ⟨n.f 14,n.f 14⟩)else Bu.obsB (lo n)
def daL(N:Nde)(cos:I)(lf:Nd->I×Int)(cs:List SV)(i:Nat):Nat->Ch:=fun j=>(chL (allF N cos lf cs) i).getD j Ch.zero
def daF(N:Nde)(cos:I)(lf:Nd->I×Int)(cs:List SV)(i:Nat):Int:=nodE N cos lf (daL N cos lf cs i) (ndR cs (i*19))
def daE(N:Nde)(cos:I)(lf:Nd->I×Int)(cs:List SV):Nat->Int
 |0=>0
 |i+1=>bif decide (daE N cos lf cs i=0)then daF N cos lf cs i else daE N cos lf cs i
def daPs(N:Nde)(cos:I)(lo:Nd->Obs)(cs:List SV)(len:Nat):Bool:=(List.range len).all fun i=>nodP N cos lo (ndR cs (i*19))
theorem daPs_at{N:Nde}{cos:I}{lo:Nd->Obs}{cs:List SV}{len:Nat}(h:daPs N cos lo cs len=true){i:Nat}(hi:i<len):nodP N cos lo (ndR cs (i*19))=true:=List.all_eq_true.1 h i (List.mem_range.2 hi)
theorem nodB_of{N:Nde}{cos:I}{lf:Nd->I×Int}{lo:Nd->Obs}{l:Nat->Ch}{n:Nd}(h:nodE N cos lf l n=0)(p:nodP N cos lo n=true):nodB N cos lf lo l n=true:=by
 unfold nodE at h;unfold nodP at p;unfold nodB;by_cases h5:n.k=5
 ·rw[dF (show n.k≠6 by omega),cF]at h;rw[dT h5,cT,dT h];rfl
 ·rw[dF h5,cF]at p;by_cases h6:n.k=6
  ·rw[dT h6,cT]at h p;by_cases d:(N.D cos ⟨n.f 14,n.f 14⟩).2=0
   ·rw[dT d,cT]at h;rw[dF h5,dT h6,cF,cT,p,dT d,dT h];rfl
   ·rw[dF d,cF]at h;exact absurd h d
  ·rw[dF h6,cF]at h p;rw[dF h5,dF h6,cF,cF,p,dT h];rfl
theorem daE_0{N:Nde}{cos:I}{lf:Nd->I×Int}{cs:List SV}:∀{j:Nat},daE N cos lf cs j=0->∀i,i<j->daF N cos lf cs i=0
 |0,_,i,hi=>by omega
 | j + 1, h, i, hi => by
   have e:daE N cos lf cs (j+1)=bif decide (daE N cos lf cs j=0)then daF N cos lf cs j else daE N cos lf cs j:=rfl
   rw[e]at h;by_cases hj:daE N cos lf cs j=0
   ·rw[dT hj,cT]at h;rcases Nat.lt_or_ge i j with h1|h1
    ·exact daE_0 hj i h1
    ·have:i=j:=by omega
     subst this;exact h
   ·rw[dF hj,cF]at h;exact absurd h hj
theorem daE_n{N:Nde}{cos:I}{lf:Nd->I×Int}{cs:List SV}:∀{j:Nat},daE N cos lf cs j≠0->∃i,i<j/\(∀k,k<i->daF N cos lf cs k=0)/\daF N cos lf cs i≠0/\daE N cos lf cs j=daF N cos lf cs i
 |0,h=>absurd rfl h
 | j + 1, h => by
   have e:daE N cos lf cs (j+1)=bif decide (daE N cos lf cs j=0)then daF N cos lf cs j else daE N cos lf cs j:=rfl
   rw[e]at h ⊢;by_cases hj:daE N cos lf cs j=0
   ·rw[dT hj,cT]at h ⊢;exact⟨j,Nat.lt_succ_self j,daE_0 hj,h,rfl⟩
   ·rw[dF hj,cF];obtain⟨i,h1,h2,h3,h4⟩:=daE_n hj;exact⟨i,Nat.lt_succ_of_lt h1,h2,h3,h4⟩
theorem daB_of{N:Nde}{cos:I}{lf:Nd->I×Int}{lo:Nd->Obs}{cs:List SV}{len:Nat}(hP:daPs N cos lo cs len=true)(h:daE N cos lf cs len=0):allB N cos lf lo cs len=true:=
 List.all_eq_true.2 fun i hi=>nodB_of (daE_0 h i (List.mem_range.1 hi)) (daPs_at hP (List.mem_range.1 hi))
def RetD(e:TypeId)(cells:List SV)(v u:V3)(er:Int)(t:St):Prop:=resultS prog Tryz.f68 t=some (.tup [zCs,.si .i64 er])/\∃more,t.M=preA e cells v u++more
theorem daRound{N:Nde}(hO:OracleOk prog (OD N)){e:TypeId}{cs cells lc:List SV}{v u:V3}{off len cap i:Nat}{cos:I}{x:Nat->SV}(K:OkPg cs len)(hca:CellsAt cells off cs)
  (hP:daPs N cos (lfRo N.go v u) cs len=true) (hi:i<len) (hE:daF N cos (lfR N.g v u) cs i≠0) (hl:ChRow (chF (allF N cos (lfR N.g v u) cs)) len i lc) :
  RunsP prog aBd (aS (preA e cells v u) 3 off len cap cos lfA (.si .i64 (i:Int)) x lc none) .ret (RetD e cells v u (daF N cos (lfR N.g v u) cs i)):=by
 have p:=daPs_at hP hi;obtain⟨_,hR⟩:=K.at hca hi;have hnd:=K.nd i hi;have hH:=hd_ok K hca hi;have hg:∀{a:Int},0<=a->a<i->daL N cos (lfR N.g v u) cs i a.toNat=chAt lc (0+a.toNat*4):=fun h0 h1=>by rw[(hl.at h0 h1).1];exact chL_get _ (by omega)
 have fin:∀{d:List Bool}{er:Int}{ob:Obs},er=daF N cos (lfR N.g v u) cs i->Lands prog EG (OD N) 60 aBd (aS (preA e cells v u) 3 off len cap cos lfA (.si .i64 (i:Int)) x lc (some d)) .ret->(aA N e cells lc v u off len cap cos (i:Int) x d).ob=ob->ObsOk ob->
   resultS prog Tryz.f68 (aA N e cells lc v u off len cap cos (i:Int) x d)=some (.tup [zCs,.si .i64 er])->(aA N e cells lc v u off len cap cos (i:Int) x d).M=preA e cells v u++(aA N e cells lc v u off len cap cos (i:Int) x d).M.drop 3->
   RunsP prog aBd (aS (preA e cells v u) 3 off len cap cos lfA (.si .i64 (i:Int)) x lc none) .ret (RetD e cells v u (daF N cos (lfR N.g v u) cs i)):=fun{d er ob}he hL hb ho hr hM=>by
  subst he;exact RunsP.re (d:=some d) (o:=[]) (Lands.all goodG hO hL (hb▸ho) ⟨hr,_,hM⟩)
 have hF:daF N cos (lfR N.g v u) cs i=nodE N cos (lfR N.g v u) (daL N cos (lfR N.g v u) cs i) (ndR cs (i*19)):=rfl;have hE':=hE;rw[hF]at hE';have hR':ndR cells (off+((i:Nat):Int).toNat*19)=ndR cs (i*19):=by rw[tN];exact hR
 generalize ndR cs (i*19)=n at hnd p hF hE' hR';unfold nodE at hF hE';unfold nodP at p;by_cases h5:n.k=5
 ·obtain⟨⟨a0,a1⟩,b0,b1⟩:=okNd_mix hnd h5;rw[dF (show n.k≠6 by omega),cF]at hF hE';have ev:(mixC N.K (n.f 15) (chsAt lc n.a.toNat) (chsAt lc n.b.toNat)).2=(nodC N cos (lfR N.g v u) (daL N cos (lfR N.g v u) cs i) n).2:=by unfold nodC chsAt;rw[dT h5,cT,hg a0 a1,hg b0 b1]
  rw[<-ev]at hF hE';obtain⟨_,ca,ia⟩:=hl.at a0 a1;obtain⟨_,cb,ib⟩:=hl.at b0 b1;refine fin (by rw[hF,hR']) (daL_m N e cells lc v u off len cap cos (i:Int) x) (daO_m N e cells lc v u off len cap cos (i:Int) x) ?_ (daR_m N e cells lc v u off len cap cos (i:Int) x) (daM_m N e cells lc v u off len cap cos (i:Int) x);rw[hR'];exact ob_a (ob_c (by simpa using hE') (ob_c cb (ob_c (ix_of b0 (by omega)) (ob_c ca (ob_c (ix_of a0 (by omega)) (ob_c (dT h5) ob_n)))))) hH
 ·rw[dF h5,cF]at p;by_cases h6:n.k=6
  ·obtain⟨a0,a1⟩:=okNd_coat hnd h6;rw[dT h6,cT]at hF hE' p;have pO:=Bu.obsB_ok p;have oT:ObsOk ((N.dO cos ⟨n.f 14,n.f 14⟩++ [(decide (n.k=6),true),(decide (n.k=5),false)])++aHdO cells off len (i:Int)):=ob_a (ob_a pO (ob_c (dT h6) (ob_c (dF h5) ob_n))) hH;by_cases d:(N.D cos ⟨n.f 14,n.f 14⟩).2=0
   ·rw[dT d,cT]at hF hE';have ev:(coatC N.K (N.D cos ⟨n.f 14,n.f 14⟩).1 (chsAt lc n.a.toNat)).2=(nodC N cos (lfR N.g v u) (daL N cos (lfR N.g v u) cs i) n).2:=by unfold nodC chsAt;rw[dF h5,dT h6,cF,cT,hg a0 a1]
    rw[<-ev]at hF hE';obtain⟨_,_,p2,p3⟩:=hl.at a0 a1;refine fin (by rw[hF,hR']) (daL_c N e cells lc v u off len cap cos (i:Int) x) (daO_c N e cells lc v u off len cap cos (i:Int) x) ?_ (daR_c N e cells lc v u off len cap cos (i:Int) x) (daM_c N e cells lc v u off len cap cos (i:Int) x);rw[hR'];exact ob_a (ob_c (by simpa using hE') (ob_c p3 (ob_c (ix_of a0 (by omega)) (ob_c p2 (ob_c (ix_of a0 (by omega)) (ob_c (ne_0 d) ob_n)))))) oT
   ·rw[dF d,cF]at hF;refine fin (by rw[hF,hR']) (daL_d N e cells lc v u off len cap cos (i:Int) x) (daO_d N e cells lc v u off len cap cos (i:Int) x) ?_ (daR_d N e cells lc v u off len cap cos (i:Int) x) (daM_d N e cells lc v u off len cap cos (i:Int) x);rw[hR'];exact ob_c (by simpa using d) (ob_c (by simpa using d) oT)
  ·rw[dF h6,cF]at hF hE' p;have ev:(lfR N.g v u n).2=(nodC N cos (lfR N.g v u) (daL N cos (lfR N.g v u) cs i) n).2:=by unfold nodC;rw[dF h5,dF h6,cF,cF]
   rw[<-ev]at hF hE';refine fin (by rw[hF,hR']) (daL_l N e cells lc v u off len cap cos (i:Int) x) (daO_l N e cells lc v u off len cap cos (i:Int) x) ?_ (daR_l N e cells lc v u off len cap cos (i:Int) x) (daM_l N e cells lc v u off len cap cos (i:Int) x);rw[hR'];exact ob_a (ob_c (by simpa using hE') ob_n) (ob_a (ob_a (ob_a (Bu.obsB_ok p) ob_n) (ob_c (dF h6) (ob_c (dF h5) ob_n))) hH)
theorem daAll{N:Nde}(hO:OracleOk prog (OD N)){e:TypeId}{cs cells:List SV}{v u:V3}{off len cap:Nat}{cos:I}(K:OkPg cs len)(hca:CellsAt cells off cs)(hid:idsLts 0 cells=true)
  (hP:daPs N cos (lfRo N.go v u) cs len=true) (hE:daE N cos (lfR N.g v u) cs len≠0) :
  RunsP prog aC (en0 (preA e cells v u) off len cap cos lfA) .ret (RetD e cells v u (daE N cos (lfR N.g v u) cs len)):=by
 have hmk:(mkC 32 len len&&decide ((len:Int)<=9223372036854775807))=true:=by have:=K.hi;unfold mkC;simp;omega
 obtain⟨n,h1,h2,h3,h4⟩:=daE_n hE;rw[h4];rw[aC_cut];refine Lands.seq goodG hO (enA0 N e cells v u off len cap cos) (by rw[enA0o];exact obs_nil) ?_;refine Lands.seq goodG hO (enA1 N e cells v u off len cap cos) (by rw[enA1o];exact ob_c hmk obs_nil) ?_;refine RunsP.seq_ret (Lands.seq goodG hO (enA2 N e cells v u off len cap cos) (by rw[enA2o];exact ob_c hmk obs_nil) ?_);have hs:SameSt (aS (preA e cells v u) 3 off len cap cos lfA (.si .i64 ((0:Nat):Int)) (xA N e cells v u off len cap cos) (lc0 len) none) (sA2 N e cells v u off len cap cos):=by
  refine same_T (fun m=> ?_) ?_
  ·rw[enA2T];simp only[aS,aT,dens,den,Int.natCast_zero]
  ·rw[enA2M];rfl
 refine RunsP.retell hs ?_;refine loop2r (fun(i:Nat)(x:Nat->SV)(y:List SV)=>aS (preA e cells v u) 3 off len cap cos lfA (.si .i64 (i:Int)) x y none) (fun i y=>ChRow (chF (allF N cos (lfR N.g v u) cs)) len i y) n ?_ ?_ _ _ (lc0_row _ len)
 ·intro i x lc hi hl;exact roundA1 hO K hca hid (nodB_of (h2 i hi) (daPs_at hP (by omega))) (by omega) hl
 ·intro x lc hl;exact daRound hO K hca hP h1 h3 hl
def daC(N:Nde)(cos:I)(lf:Nd->I×Int)(cs:List SV)(len:Nat):Ch:=bif decide (daE N cos lf cs len=0)then chP N cos lf cs len else⟨⟨toF 0,toF 0⟩,⟨toF 0,toF 0⟩⟩
def kAlE(N:Nde):RdsF:=fun cs len l rest ds=>match l,rest with
 | [.agg [.fl a, .fl b], .fn (.func 152) [] [.p 1 0, .p 2 0]], [⟨35, [.fl x0, .fl x1, .fl x2, .fl x3, .fl x4, .fl x5], .ex⟩, ⟨35, [.fl y0, .fl y1, .fl y2, .fl y3, .fl y4, .fl y5], .ex⟩] =>
   some (.tup [(daC N ⟨a,b⟩ (lfR N.g ⟨⟨x0,x1⟩,⟨x2,x3⟩,⟨x4,x5⟩⟩ ⟨⟨y0,y1⟩,⟨y2,y3⟩,⟨y4,y5⟩⟩) cs len).sv,.si .i64 (daE N ⟨a,b⟩ (lfR N.g ⟨⟨x0,x1⟩,⟨x2,x3⟩,⟨x4,x5⟩⟩ ⟨⟨y0,y1⟩,⟨y2,y3⟩,⟨y4,y5⟩⟩) cs len)],ds,
    [(okPg cs len,true),(daPs N ⟨a,b⟩ (lfRo N.go ⟨⟨x0,x1⟩,⟨x2,x3⟩,⟨x4,x5⟩⟩ ⟨⟨y0,y1⟩,⟨y2,y3⟩,⟨y4,y5⟩⟩) cs len,true)])
 |_,_=>none
theorem chE_plain(c:Ch)(e:Int):plain (.tup [c.sv,.si .i64 e])=some (.tuple #[chV c,.int .i64 e]):=rfl
theorem alEK{N:Nde}(hO:OracleOk prog (OD N)):RdsOk prog 68 (kAlE N):=by
 intro cs len l rest ds x ds' ob h ho;unfold kAlE at h;split at h
 ·rename_i a b x0 x1 x2 x3 x4 x5 y0 y1 y2 y3 y4 y5;simp only[sIz,pIz]at h;obtain⟨rfl,_,rfl⟩:=h;have K:=okPg_ok (ho _ (List.mem_cons_self ..));have hP:daPs N ⟨a,b⟩ (lfRo N.go ⟨⟨x0,x1⟩,⟨x2,x3⟩,⟨x4,x5⟩⟩ ⟨⟨y0,y1⟩,⟨y2,y3⟩,⟨y4,y5⟩⟩) cs len=true:=ho _ (List.mem_cons_of_mem _ (List.mem_cons_self ..));refine⟨K.pl,_,chE_plain _ _,fun m w e cells off cap vs hM hca hid hd=> ?_⟩;have hx:∀b∈ [(⟨35,[.fl x0,.fl x1,.fl x2,.fl x3,.fl x4,.fl x5],.ex⟩:Blk),⟨35,[.fl y0,.fl y1,.fl y2,.fl y3,.fl y4,.fl y5],.ex⟩],b.exact=true:=fun b hb=>by simp only[List.mem_cons,List.not_mem_nil,or_false]at hb;rcases hb with rfl|rfl<;>rfl
  by_cases hE:daE N ⟨a,b⟩ (lfR N.g ⟨⟨x0,x1⟩,⟨x2,x3⟩,⟨x4,x5⟩⟩ ⟨⟨y0,y1⟩,⟨y2,y3⟩,⟨y4,y5⟩⟩) cs len=0
  ·have e2:daC N ⟨a,b⟩ (lfR N.g ⟨⟨x0,x1⟩,⟨x2,x3⟩,⟨x4,x5⟩⟩ ⟨⟨y0,y1⟩,⟨y2,y3⟩,⟨y4,y5⟩⟩) cs len=chP N ⟨a,b⟩ (lfR N.g ⟨⟨x0,x1⟩,⟨x2,x3⟩,⟨x4,x5⟩⟩ ⟨⟨y0,y1⟩,⟨y2,y3⟩,⟨y4,y5⟩⟩) cs len:=by unfold daC;rw[dT hE,cT]
   rw[hE,e2];refine rds_of_runs (d:=none) Tryz.func68 aBody (ch_plain _) hx ?_ hM hd;rw[aNt];exact allA (v:=⟨⟨x0,x1⟩,⟨x2,x3⟩,⟨x4,x5⟩⟩) (u:=⟨⟨y0,y1⟩,⟨y2,y3⟩,⟨y4,y5⟩⟩) (cos:=⟨a,b⟩) hO K hca hid (daB_of hP hE)
  ·have e2:daC N ⟨a,b⟩ (lfR N.g ⟨⟨x0,x1⟩,⟨x2,x3⟩,⟨x4,x5⟩⟩ ⟨⟨y0,y1⟩,⟨y2,y3⟩,⟨y4,y5⟩⟩) cs len=⟨⟨toF 0,toF 0⟩,⟨toF 0,toF 0⟩⟩:=by unfold daC;rw[dF hE,cF]
   rw[e2];refine rds_of_runs (d:=none) Tryz.func68 aBody (x:= .tup [zCs,.si .i64 (daE N ⟨a,b⟩ (lfR N.g ⟨⟨x0,x1⟩,⟨x2,x3⟩,⟨x4,x5⟩⟩ ⟨⟨y0,y1⟩,⟨y2,y3⟩,⟨y4,y5⟩⟩) cs len)]) rfl hx ?_ hM hd;rw[aNt];exact daAll (v:=⟨⟨x0,x1⟩,⟨x2,x3⟩,⟨x4,x5⟩⟩) (u:=⟨⟨y0,y1⟩,⟨y2,y3⟩,⟨y4,y5⟩⟩) (cos:=⟨a,b⟩) hO K hca hid hP hE
 ·cases h
end Go.Proofs.YtejcekikbnlllaaGreat
namespace Bu
open Rx Go
structure Nce where
 o:List SV->Nat->Bool
 g:I->V3->V3->List SV->Nat->Ch
 e:I->V3->V3->List SV->Nat->Int
 b:I->V3->V3->List SV->Nat->Bool
end Bu
namespace Go.Proofs.YtejcekikbnlllaaGreat
open Go.RowKit Bu Rx
def kAl3(D:Nce):RdsF:=fun cs len l rest ds=>match l,rest with
 | [.agg [.fl a, .fl b], .fn (.func 152) [] [.p 1 0, .p 2 0]], [⟨35, [.fl x0, .fl x1, .fl x2, .fl x3, .fl x4, .fl x5], .ex⟩, ⟨35, [.fl y0, .fl y1, .fl y2, .fl y3, .fl y4, .fl y5], .ex⟩] =>
   some (.tup [(D.g ⟨a,b⟩ ⟨⟨x0,x1⟩,⟨x2,x3⟩,⟨x4,x5⟩⟩ ⟨⟨y0,y1⟩,⟨y2,y3⟩,⟨y4,y5⟩⟩ cs len).sv,.si .i64 (D.e ⟨a,b⟩ ⟨⟨x0,x1⟩,⟨x2,x3⟩,⟨x4,x5⟩⟩ ⟨⟨y0,y1⟩,⟨y2,y3⟩,⟨y4,y5⟩⟩ cs len)],ds,[(D.o cs len,true),(D.b ⟨a,b⟩ ⟨⟨x0,x1⟩,⟨x2,x3⟩,⟨x4,x5⟩⟩ ⟨⟨y0,y1⟩,⟨y2,y3⟩,⟨y4,y5⟩⟩ cs len,true)])
 |_,_=>none
def ndE(N:Nde):Nce:=⟨okPg,fun cos v u cs len=>daC N cos (lfR N.g v u) cs len,fun cos v u cs len=>daE N cos (lfR N.g v u) cs len,fun cos v u cs len=>daPs N cos (lfRo N.go v u) cs len⟩
theorem kAlE_3(N:Nde):kAlE N=kAl3 (ndE N):=by funext cs len l rest ds;unfold kAlE kAl3;rfl
def OCe(D:Nce):OracleF:=lookO [(50,kRd 19 (kRgt D.o)),(67,plainO oRt),(68,kRds 19 (kAl3 D))]
section
variable (D:Nce) (e:TypeId) (cells:List SV) (off len cap:Nat) (v u:V3) (cos:I)
theorem ceRun:((run prog EG (OCe D) 60).1 78 [.ssl 0 off len cap,v.sv,u.sv] [⟨e,cells,.num⟩] (some (List.replicate 18 true))).map (fun q=>(q.1,q.2.1.take 1,q.2.2))=
  some (.tup [(D.g u.z v u (cutC cells off len) len).sv,.si .i64 (D.e u.z v u (cutC cells off len) len)],[⟨e,cells,.num⟩],some [],[(D.o (cutC cells off len) len,true),(D.b u.z v u (cutC cells off len) len,true)]++(vcO u++(vcO v++ [(D.o (cutC cells off len) len,true)]))):=by kernel_rfl
end
def kCe(D:Nce):RdF:=fun cs len l ds=>match l with
 | [.agg [.fl x0, .fl x1, .fl x2, .fl x3, .fl x4, .fl x5], .agg [.fl y0, .fl y1, .fl y2, .fl y3, .fl y4, .fl y5]] =>
   some (.tup [(D.g ⟨y4,y5⟩ ⟨⟨x0,x1⟩,⟨x2,x3⟩,⟨x4,x5⟩⟩ ⟨⟨y0,y1⟩,⟨y2,y3⟩,⟨y4,y5⟩⟩ cs len).sv,.si .i64 (D.e ⟨y4,y5⟩ ⟨⟨x0,x1⟩,⟨x2,x3⟩,⟨x4,x5⟩⟩ ⟨⟨y0,y1⟩,⟨y2,y3⟩,⟨y4,y5⟩⟩ cs len)],ds,
    (decide (cs.length=len*19),true)::(D.o cs len,true)::(D.b ⟨y4,y5⟩ ⟨⟨x0,x1⟩,⟨x2,x3⟩,⟨x4,x5⟩⟩ ⟨⟨y0,y1⟩,⟨y2,y3⟩,⟨y4,y5⟩⟩ cs len,true)::(vcO ⟨⟨y0,y1⟩,⟨y2,y3⟩,⟨y4,y5⟩⟩++vcO ⟨⟨x0,x1⟩,⟨x2,x3⟩,⟨x4,x5⟩⟩))
 |_=>none
theorem ceG{D:Nce}(hO:OracleOk prog (OCe D))(hD:D.o=okPg):RdOk prog 78 (kCe D):=by
 intro cs len l ds x ds' ob h ho;unfold kCe at h;split at h
 ·rename_i x0 x1 x2 x3 x4 x5 y0 y1 y2 y3 y4 y5;simp only[sIz,pIz]at h;obtain⟨rfl,_,rfl⟩:=h;have h1:cs.length=len*19:=oTz (ho _ (List.mem_cons_self ..));have h2:D.o cs len=true:=ho _ (List.mem_cons_of_mem _ (List.mem_cons_self ..));have h3:=ho _ (List.mem_cons_of_mem _ (List.mem_cons_of_mem _ (List.mem_cons_self ..)));have h4:ObsOk (vcO ⟨⟨y0,y1⟩,⟨y2,y3⟩,⟨y4,y5⟩⟩++vcO ⟨⟨x0,x1⟩,⟨x2,x3⟩,⟨x4,x5⟩⟩):=fun p hp=>ho p (List.mem_cons_of_mem _ (List.mem_cons_of_mem _ (List.mem_cons_of_mem _ hp)));obtain⟨vc,hc⟩:=(okPg_ok (hD▸h2)).pl;refine⟨vc,_,_,hc,rfl,chE_plain _ _,fun w r off cap hw=> ?_⟩;refine rd_of_runT goodG hO 60 (l:=[V3.sv ⟨⟨x0,x1⟩,⟨x2,x3⟩,⟨x4,x5⟩⟩,V3.sv ⟨⟨y0,y1⟩,⟨y2,y3⟩,⟨y4,y5⟩⟩]) hc rfl (chE_plain _ _) (fun e cells off cap hca=> ?_) w r off cap hw;have hr:=ceRun D e cells off len cap ⟨⟨x0,x1⟩,⟨x2,x3⟩,⟨x4,x5⟩⟩ ⟨⟨y0,y1⟩,⟨y2,y3⟩,⟨y4,y5⟩⟩;rw[cut_at hca h1]at hr;exact⟨_,_,_,hr,ob_app (obs_cons h2 (obs_cons h3 obs_nil)) (ob_app h4.left (ob_app h4.right (obs_cons h2 obs_nil)))⟩
 ·cases h
theorem oracleCe{N:Nde}(hO:OracleOk prog (OD N)):OracleOk prog (OCe (ndE N)):=
 .cons (show RdOk prog 50 (kRgt okPg)from rgtG).of <| .cons irightG.of <| .cons (RdsOk.of (by rw[<-kAlE_3];exact alEK hO)) <| .nil _
theorem chE{N:Nde}(hO:OracleOk prog (OD N)):RdOk prog 78 (kCe (ndE N)):=ceG (oracleCe hO) rfl
end Go.Proofs.YtejcekikbnlllaaGreat
namespace Bu
open Rx Go
structure Lt where
 f0:I
 f1:I
 f2:I
 r0:I
 r1:I
 r2:I
def Lt.cells(t:Lt):List SV:=[.fl t.f0.lo,.fl t.f0.hi,.fl t.f1.lo,.fl t.f1.hi,.fl t.f2.lo,.fl t.f2.hi,.fl t.r0.lo,.fl t.r0.hi,.fl t.r1.lo,.fl t.r1.hi,.fl t.r2.lo,.fl t.r2.hi]
def Lt.zero:Lt:=⟨I.zero,I.zero,I.zero,I.zero,I.zero,I.zero⟩
end Bu
namespace Go.Proofs.YtejcekikbnlllaaGreat
open Go.RowKit Bu Rx
def kVn(g:Lf->I×Int)(o:Lf->Obs):List SV->Dec->Option (SV×Dec×Obs)
 | [x, ch, .agg [.fl p0, .fl p1, .fl p2, .fl p3, .fl p4, .fl p5], .agg [.fl r0, .fl r1, .fl r2, .fl r3, .fl r4, .fl r5]], ds => match ndOf x, intS ch with
   |some n,some (.i64,c)=>some (.tup [.agg [.fl (g ⟨n.k,etaF n.f,c,⟨⟨p0,p1⟩,⟨p2,p3⟩,⟨p4,p5⟩⟩,⟨⟨r0,r1⟩,⟨r2,r3⟩,⟨r4,r5⟩⟩⟩).1.lo,.fl (g ⟨n.k,etaF n.f,c,⟨⟨p0,p1⟩,⟨p2,p3⟩,⟨p4,p5⟩⟩,⟨⟨r0,r1⟩,⟨r2,r3⟩,⟨r4,r5⟩⟩⟩).1.hi],.si .i64 (g ⟨n.k,etaF n.f,c,⟨⟨p0,p1⟩,⟨p2,p3⟩,⟨p4,p5⟩⟩,⟨⟨r0,r1⟩,⟨r2,r3⟩,⟨r4,r5⟩⟩⟩).2],ds,(decide (n.a=0),true)::(decide (n.b=0),true)::o ⟨n.k,etaF n.f,c,⟨⟨p0,p1⟩,⟨p2,p3⟩,⟨p4,p5⟩⟩,⟨⟨r0,r1⟩,⟨r2,r3⟩,⟨r4,r5⟩⟩⟩)
   |_,_=>none
 |_,_=>none
def OE(o:List SV->Nat->Bool)(N:Nde):OracleF:=lookO (OCL N.K++ [(50,kRd 19 (kRgt o)),(66,plainO (kI2 N.D N.dO)),(231,plainO (kVn N.g N.go))])
noncomputable def eC:Code:=bodyOf prog 77
noncomputable def eR7:Code:=seqL (seqL (post 4 eC))
noncomputable def eBd:Code:=inner (inner (seqR (seqL (post 4 eC))))
noncomputable def eTl:Code:=seqR (post 4 eC)
theorem eBody:Tryz.f77.body=some eC:=by kernel_rfl
theorem eC_cut:post 4 eC= .seq (.seq eR7 (.block 0 (.loop eBd))) eTl:=by kernel_rfl
def evT(off len cap:Nat)(v u:V3)(l c:SV)(x:Nat->SV):List SV:=
 [.ssl 0 off len cap,v.sv,u.sv,x 3,.p 1 0,.p 2 0,.p 3 0,x 7,x 8,l,x 10,x 11,x 12,x 13,x 14,x 15,x 16,x 17,x 18,x 19,x 20,x 21,x 22,x 23,x 24,x 25,x 26,x 27,x 28,.ssl 0 off len cap,.si .i64 len,c,x 32,x 33,x 34,x 35,x 36,x 37,x 38,x 39,x 40,x 41,x 42,x 43,x 44,x 45,x 46,x 47,x 48,x 49,x 50,x 51,x 52,x 53,x 54,x 55,x 56,x 57,x 58,x 59,x 60,x 61,x 62,x 63,x 64,x 65,x 66,x 67,x 68,x 69,x 70,x 71,x 72,x 73,x 74,x 75,x 76,x 77,x 78,x 79,x 80,x 81,x 82,x 83]
def evP(e:TypeId)(cells:List SV)(v u:V3):List Blk:=[⟨e,cells,.num⟩,vcB v,vcB u,⟨65,Lt.zero.cells,.ex⟩]
def evS0(e:TypeId)(cells:List SV)(v u:V3)(off len cap:Nat)(i:Int)(x:Nat->SV)(d:Dec):St:=⟨evT off len cap v u (.o (.slice none 0 0)) (.si .i64 i) x,evP e cells v u,d,[]⟩
def evS(e:TypeId)(cells lc:List SV)(v u:V3)(off len cap n:Nat)(i:Int)(x:Nat->SV)(d:Dec):St:=⟨evT off len cap v u (.osl true 4 n) (.si .i64 i) x,evP e cells v u++ [⟨65,lc,.rown 12⟩],d,[]⟩
noncomputable def eEn(e:TypeId)(cells:List SV)(v u:V3)(off len cap:Nat)(d:Dec):St:=⟨([.ssl 0 off len cap,v.sv,u.sv]:List SV)++List.replicate (Tryz.f77.ntmps-3) (.tup []),[⟨e,cells,.num⟩],d,[]⟩
end Go.Proofs.YtejcekikbnlllaaGreat
namespace Bu
open Rx Go
def ltC(c:Nat->Ch):List SV:=[.fl (c 0).p.lo,.fl (c 0).p.hi,.fl (c 1).p.lo,.fl (c 1).p.hi,.fl (c 2).p.lo,.fl (c 2).p.hi,.fl (c 0).m.lo,.fl (c 0).m.hi,.fl (c 1).m.lo,.fl (c 1).m.hi,.fl (c 2).m.lo,.fl (c 2).m.hi]
def lcAt(lc:List SV)(k a:Nat):Ch:=⟨⟨flAt lc (a*12+k*2),flAt lc (a*12+k*2+1)⟩,⟨flAt lc (a*12+6+k*2),flAt lc (a*12+6+k*2+1)⟩⟩
def overC(K:Kk)(i o:I)(w:F)(a:Ch):Ch×Int:=
 let q1:=K.num 0 one_
 let qw:=K.num q1.2 w
 let s:=K.sub qw.2 q1.1 o
 let h:=K.sub s.2 q1.1 i
 let x:=K.mul h.2 h.1 s.1
 let y:=K.mul x.2 x.1 qw.1
 let f:=K.mul y.2 y.1 a.p
 let q:=K.sqr f.2 s.1
 let t:=K.mul q.2 q.1 qw.1
 let z:=K.mul t.2 t.1 a.m
 let r:=K.add z.2 o z.1
 (⟨f.1,r.1⟩,r.2)
end Bu
namespace Go.Proofs.YtejcekikbnlllaaGreat
open Go.RowKit Bu Rx
def lfE(v u:V3)(k:Nat)(n:Nd):Lf:=⟨n.k,etaF n.f,(k:Int),v,u⟩
def evN(N:Nde)(v u:V3)(k:Nat)(l:Nat->Ch)(n:Nd):Ch×Int:=
 bif decide (n.k=5)then mixC N.K (n.f 15) (l n.a.toNat) (l n.b.toNat)
 else bif decide (n.k=6)then overC N.K (N.D v.z ⟨n.f 14,n.f 14⟩).1 (N.D u.z ⟨n.f 14,n.f 14⟩).1 (n.f (3+k)) (l n.a.toNat)
 else(⟨(N.g (lfE v u k n)).1,I.zero⟩,(N.g (lfE v u k n)).2)
def lfOb(N:Nde)(v u:V3)(n:Nd)(k:Nat):Obs:=(decide (n.a=0),true)::(decide (n.b=0),true)::N.go (lfE v u k n)
def ivCK:List CK:=[.f,.f]
def rdOb(lc:List SV)(n:Nat)(a:Int)(k:Nat):Obs:=[(ckAll lc (a.toNat*12+6+k*2) ivCK,true),(ixB (k:Int) 3,true),(ixB a n,true),(ckAll lc (a.toNat*12+k*2) ivCK,true),(ixB (k:Int) 3,true),(ixB a n,true)]
def evHd(cells:List SV)(off len:Nat)(i:Int):Obs:=[(ckAll cells (off+i.toNat*19) ndCK,true),(ixB i len,true),(decide (i<len),true)]
def evAp(lc:List SV)(n:Nat):Bool:=decide (1<=1)&&(decide (n+1<=maxLen)&&(decide ((n+1)*96<=140737488355328)&&(decide (0+1*12<=12)&&(true&&decide (lc.length=n*12)))))
def ndOb(e0 e1 e2:Int)(o0 o1 o2 t:Obs):Obs:=(e2 != 0,false)::((o2++ [])++((e1==0,true)::((o1++ [])++((e0==0,true)::((o0++ [])++t)))))
def nd0(cells:List SV)(off:Nat)(i:Int):Nd:=ndR cells (off+i.toNat*19)
section
variable (N:Nde) (o:List SV->Nat->Bool) (e:TypeId) (cells lc:List SV) (v u:V3) (off len cap n:Nat) (i:Int) (x:Nat->SV)
noncomputable abbrev evZ:St:=aft prog EG (OE o N) 60 eBd (evS0 e cells v u off len cap i x (some [true,false,false,true,true,false]))
noncomputable abbrev evA(d:List Bool):St:=aft prog EG (OE o N) 60 eBd (evS e cells lc v u off len cap n i x (some d))
def dLf:List Bool:=[true,false,false,true,true,false]
def dMx:List Bool:=[true,true,true,true,false]
def dCo:List Bool:=[true,false,true,false,true,true,true,false]
theorem evLz:Lands prog EG (OE o N) 60 eBd (evS0 e cells v u off len cap i x (some [true,false,false,true,true,false])) .normal:=by unfold Lands;kernel_rfl
theorem evLl:Lands prog EG (OE o N) 60 eBd (evS e cells lc v u off len cap n i x (some dLf)) .normal:=by unfold Lands;kernel_rfl
theorem evLm:Lands prog EG (OE o N) 60 eBd (evS e cells lc v u off len cap n i x (some dMx)) .normal:=by unfold Lands;kernel_rfl
theorem evLc:Lands prog EG (OE o N) 60 eBd (evS e cells lc v u off len cap n i x (some dCo)) .normal:=by unfold Lands;kernel_rfl
theorem evLx:Lands prog EG (OE o N) 60 eBd (evS e cells lc v u off len cap n i x (some [false])) (.exit 0):=by unfold Lands;kernel_rfl
def lfObs(N:Nde)(cells:List SV)(v u:V3)(off:Nat)(i:Int)(t:Obs):Obs:=ndOb (N.g (lfE v u 0 (nd0 cells off i))).2 (N.g (lfE v u 1 (nd0 cells off i))).2 (N.g (lfE v u 2 (nd0 cells off i))).2 (lfOb N v u (nd0 cells off i) 0) (lfOb N v u (nd0 cells off i) 1) (lfOb N v u (nd0 cells off i) 2) ([((nd0 cells off i).k==6,false),((nd0 cells off i).k==5,false)]++t)
theorem evOz:(evZ N o e cells v u off len cap i x).ob=lfObs N cells v u off i (evHd cells off len i):=by kernel_rfl
theorem evOl:(evA N o e cells lc v u off len cap n i x dLf).ob=(evAp lc n,true)::(lfObs N cells v u off i (evHd cells off len i)):=by kernel_rfl
def mxObs(N:Nde)(cells lc:List SV)(off n:Nat)(i:Int)(t:Obs):Obs:=ndOb (mixC N.K ((nd0 cells off i).f 15) (lcAt lc 0 (nd0 cells off i).a.toNat) (lcAt lc 0 (nd0 cells off i).b.toNat)).2 (mixC N.K ((nd0 cells off i).f 15) (lcAt lc 1 (nd0 cells off i).a.toNat) (lcAt lc 1 (nd0 cells off i).b.toNat)).2 (mixC N.K ((nd0 cells off i).f 15) (lcAt lc 2 (nd0 cells off i).a.toNat) (lcAt lc 2 (nd0 cells off i).b.toNat)).2
 (rdOb lc n (nd0 cells off i).b 0++rdOb lc n (nd0 cells off i).a 0) (rdOb lc n (nd0 cells off i).b 1++rdOb lc n (nd0 cells off i).a 1) (rdOb lc n (nd0 cells off i).b 2++rdOb lc n (nd0 cells off i).a 2) ([((nd0 cells off i).k==5,true)]++t)
theorem evOm:(evA N o e cells lc v u off len cap n i x dMx).ob=(evAp lc n,true)::(mxObs N cells lc off n i (evHd cells off len i)):=by kernel_rfl
def coO(N:Nde)(cells:List SV)(v u:V3)(off:Nat)(i:Int)(t:Obs):Obs:=((N.D u.z ⟨(nd0 cells off i).f 14,(nd0 cells off i).f 14⟩).2==0,true)::(((N.dO u.z ⟨(nd0 cells off i).f 14,(nd0 cells off i).f 14⟩++(((N.D v.z ⟨(nd0 cells off i).f 14,(nd0 cells off i).f 14⟩).2 != 0,false)::(N.dO v.z ⟨(nd0 cells off i).f 14,(nd0 cells off i).f 14⟩++ [])))++ [((nd0 cells off i).k==6,true),((nd0 cells off i).k==5,false)])++t)
def ovE(N:Nde)(cells lc:List SV)(v u:V3)(off:Nat)(i:Int)(k:Nat):Ch×Int:=overC N.K (N.D v.z ⟨(nd0 cells off i).f 14,(nd0 cells off i).f 14⟩).1 (N.D u.z ⟨(nd0 cells off i).f 14,(nd0 cells off i).f 14⟩).1 ((nd0 cells off i).f (3+k)) (lcAt lc k (nd0 cells off i).a.toNat)
def coObs(N:Nde)(cells lc:List SV)(v u:V3)(off n:Nat)(i:Int)(t:Obs):Obs:=ndOb (ovE N cells lc v u off i 0).2 (ovE N cells lc v u off i 1).2 (ovE N cells lc v u off i 2).2 (rdOb lc n (nd0 cells off i).a 0) (rdOb lc n (nd0 cells off i).a 1) (rdOb lc n (nd0 cells off i).a 2) (coO N cells v u off i t)
theorem evOc:(evA N o e cells lc v u off len cap n i x dCo).ob=(evAp lc n,true)::(coObs N cells lc v u off n i (evHd cells off len i)):=by kernel_rfl
theorem evMz:selM (evZ N o e cells v u off len cap i x).M [0,1,2,3,18]=some (evP e cells v u++ [⟨65,ltC (fun k=>⟨(N.g (lfE v u k (nd0 cells off i))).1,I.zero⟩),.row 12⟩]):=by kernel_rfl
theorem evMl:selM (evA N o e cells lc v u off len cap n i x dLf).M [0,1,2,3,19]=some (evP e cells v u++ [⟨65,lc++ltC (fun k=>⟨(N.g (lfE v u k (nd0 cells off i))).1,I.zero⟩),.rown 12⟩]):=by kernel_rfl
theorem evMm:selM (evA N o e cells lc v u off len cap n i x dMx).M [0,1,2,3,19]=some (evP e cells v u++ [⟨65,lc++ltC (fun k=>(mixC N.K ((nd0 cells off i).f 15) (lcAt lc k (nd0 cells off i).a.toNat) (lcAt lc k (nd0 cells off i).b.toNat)).1),.rown 12⟩]):=by kernel_rfl
theorem evMc:selM (evA N o e cells lc v u off len cap n i x dCo).M [0,1,2,3,20]=some (evP e cells v u++ [⟨65,lc++ltC (fun k=>(ovE N cells lc v u off i k).1),.rown 12⟩]):=by kernel_rfl
end
def lt12:List CK:=[.f,.f,.f,.f,.f,.f,.f,.f,.f,.f,.f,.f]
def ltS(lc:List SV)(a:Nat):SV:= .agg [.fl (flAt lc (a*12)),.fl (flAt lc (a*12+1)),.fl (flAt lc (a*12+2)),.fl (flAt lc (a*12+3)),.fl (flAt lc (a*12+4)),.fl (flAt lc (a*12+5)),.fl (flAt lc (a*12+6)),.fl (flAt lc (a*12+7)),.fl (flAt lc (a*12+8)),.fl (flAt lc (a*12+9)),.fl (flAt lc (a*12+10)),.fl (flAt lc (a*12+11))]
section
variable (N:Nde) (o:List SV->Nat->Bool) (e:TypeId) (cells lc:List SV) (v u:V3) (off len cap n:Nat) (i:Int) (x:Nat->SV)
noncomputable abbrev ev4:St:=aftN prog EG (OE o N) 60 4 eC (eEn e cells v u off len cap (some (List.replicate 18 true)))
noncomputable abbrev ev5:St:=aft prog EG (OE o N) 60 eR7 (ev4 N o e cells v u off len cap)
theorem evL4:LandsN prog EG (OE o N) 60 4 eC (eEn e cells v u off len cap (some (List.replicate 18 true))):=by unfold LandsN;kernel_rfl
theorem evL5:Lands prog EG (OE o N) 60 eR7 (ev4 N o e cells v u off len cap) .normal:=by unfold Lands;kernel_rfl
def evEO(o:List SV->Nat->Bool)(cells:List SV)(v u:V3)(off len:Nat):Obs:=vcO u++(vcO v++ [(o ((cells.drop off).take (len*19)) len,true)])
theorem evO4:(ev4 N o e cells v u off len cap).ob=evEO o cells v u off len:=by kernel_rfl
theorem evO5:(ev5 N o e cells v u off len cap).ob=evEO o cells v u off len:=by kernel_rfl
theorem evM5:selM (ev5 N o e cells v u off len cap).M [0,1,2,3]=some (evP e cells v u):=by kernel_rfl
noncomputable def ev5X(vv:Nat->Value):Nat->SV:=fun j=>((ev5 N o e cells v u off len cap).sel [0,1,2,3] [] vv).T.getD j .np
theorem evT5(vv:Nat->Value)(M':List Blk):((ev5 N o e cells v u off len cap).sel [0,1,2,3] M' vv).T=evT off len cap v u (.o (.slice none 0 0)) (.i .i64 0) (ev5X N o e cells v u off len cap vv):=by kernel_rfl
noncomputable def evXz(vv:Nat->Value):Nat->SV:=fun j=>((evZ N o e cells v u off len cap i x).sel [0,1,2,3,18] [] vv).T.getD j .np
theorem evTz(vv:Nat->Value)(M':List Blk):((evZ N o e cells v u off len cap i x).sel [0,1,2,3,18] M' vv).T=evT off len cap v u (.osl false 4 (0+1)) (.si .i64 (IntKind.i64.wrap (i+1))) (evXz N o e cells v u off len cap i x vv):=by kernel_rfl
noncomputable def evXl(vv:Nat->Value):Nat->SV:=fun j=>((evA N o e cells lc v u off len cap n i x dLf).sel [0,1,2,3,19] [] vv).T.getD j .np
theorem evTl(vv:Nat->Value)(M':List Blk):((evA N o e cells lc v u off len cap n i x dLf).sel [0,1,2,3,19] M' vv).T=evT off len cap v u (.osl true 4 (n+1)) (.si .i64 (IntKind.i64.wrap (i+1))) (evXl N o e cells lc v u off len cap n i x vv):=by kernel_rfl
noncomputable def evXm(vv:Nat->Value):Nat->SV:=fun j=>((evA N o e cells lc v u off len cap n i x dMx).sel [0,1,2,3,19] [] vv).T.getD j .np
theorem evTm(vv:Nat->Value)(M':List Blk):((evA N o e cells lc v u off len cap n i x dMx).sel [0,1,2,3,19] M' vv).T=evT off len cap v u (.osl true 4 (n+1)) (.si .i64 (IntKind.i64.wrap (i+1))) (evXm N o e cells lc v u off len cap n i x vv):=by kernel_rfl
noncomputable def evXc(vv:Nat->Value):Nat->SV:=fun j=>((evA N o e cells lc v u off len cap n i x dCo).sel [0,1,2,3,20] [] vv).T.getD j .np
theorem evTc(vv:Nat->Value)(M':List Blk):((evA N o e cells lc v u off len cap n i x dCo).sel [0,1,2,3,20] M' vv).T=evT off len cap v u (.osl true 4 (n+1)) (.si .i64 (IntKind.i64.wrap (i+1))) (evXc N o e cells lc v u off len cap n i x vv):=by kernel_rfl
theorem evXo:aft prog EG (OE o N) 60 eBd (evS e cells lc v u off len cap n i x (some [false]))=⟨evT off len cap v u (.osl true 4 n) (.si .i64 i) (fun k=>bif Nat.beq k 32 then .b false else x k),evP e cells v u++ [⟨65,lc,.rown 12⟩],some [],[(decide (i<len),false)]⟩:=by kernel_rfl
theorem evEL:Lands prog EG (OE o N) 60 eTl (evS e cells lc v u off len cap n i x none) .ret:=by unfold Lands;kernel_rfl
theorem evEO_:(aft prog EG (OE o N) 60 eTl (evS e cells lc v u off len cap n i x none)).ob=[(ckAll lc ((IntKind.i64.wrap ((n:Int)-1)).toNat*12) lt12,true),(ixB (IntKind.i64.wrap ((n:Int)-1)) n,true)]:=by kernel_rfl
theorem evER:resultS prog Tryz.f77 (aft prog EG (OE o N) 60 eTl (evS e cells lc v u off len cap n i x none))=some (.tup [ltS lc (IntKind.i64.wrap ((n:Int)-1)).toNat,.i .i64 0]):=by kernel_rfl
theorem evEM:∃more,(aft prog EG (OE o N) 60 eTl (evS e cells lc v u off len cap n i x none)).M=⟨e,cells,.num⟩::more:=⟨[vcB v,vcB u,⟨65,(match ltS lc (IntKind.i64.wrap ((n:Int)-1)).toNat with| .agg l=>l|_=>[]),.ex⟩,⟨65,lc,.rown 12⟩],by kernel_rfl⟩
end
end Go.Proofs.YtejcekikbnlllaaGreat
namespace Bu
open Rx Go
theorem lc_at{lc:List SV}{a:Nat}{c:Nat->Ch}(h:CellsAt lc (a*12) (ltC c)):∀k,k<3->lcAt lc k a=c k/\ckAll lc (a*12+k*2) [.f,.f]=true/\ckAll lc (a*12+6+k*2) [.f,.f]=true:=by
 intro k hk;have e0:=h 0 _ rfl;have e1:=h 1 _ rfl;have e2:=h 2 _ rfl;have e3:=h 3 _ rfl;have e4:=h 4 _ rfl;have e5:=h 5 _ rfl;have e6:=h 6 _ rfl;have e7:=h 7 _ rfl;have e8:=h 8 _ rfl;have e9:=h 9 _ rfl;have e10:=h 10 _ rfl;have e11:=h 11 _ rfl;rw[Nat.add_zero]at e0;unfold lcAt;rcases (by omega:k=0\/k=1\/k=2)with rfl|rfl|rfl
 all_goals
  simp only[flAt,ckAll,ckOk,Nat.reduceMul,Nat.add_assoc,Nat.reduceAdd,Nat.add_zero,Nat.zero_mul,Nat.zero_add,e0,e1,e2,e3,e4,e5,e6,e7,e8,e9,e10,e11,Bool.and_self,Bool.and_true,and_self]
theorem lt_ck{lc:List SV}{a:Nat}{c:Nat->Ch}(h:CellsAt lc (a*12) (ltC c)):ckAll lc (a*12) [.f,.f,.f,.f,.f,.f,.f,.f,.f,.f,.f,.f]=true:=by have e0:=h 0 _ rfl;have e1:=h 1 _ rfl;have e2:=h 2 _ rfl;have e3:=h 3 _ rfl;have e4:=h 4 _ rfl;have e5:=h 5 _ rfl;have e6:=h 6 _ rfl;have e7:=h 7 _ rfl;have e8:=h 8 _ rfl;have e9:=h 9 _ rfl;have e10:=h 10 _ rfl;have e11:=h 11 _ rfl;rw[Nat.add_zero]at e0;simp only[ckAll,ckOk,Nat.add_assoc,Nat.reduceAdd,e0,e1,e2,e3,e4,e5,e6,e7,e8,e9,e10,e11,Bool.and_self]
theorem ltC_ext{c d:Nat->Ch}(h:∀k,k<3->c k=d k):ltC c=ltC d:=by unfold ltC;rw[h 0 (by decide),h 1 (by decide),h 2 (by decide)]
def lights(F:Nat->Nat->Ch):Nat->List SV
 |0=>[]
 |n+1=>lights F n++ltC (fun k=>F k n)
theorem lights_len(F:Nat->Nat->Ch):∀n,(lights F n).length=n*12
 |0=>rfl
 |n+1=>by unfold lights;rw[List.length_append,lights_len F n,show(ltC fun k=>F k n).length=12 from rfl];omega
theorem lights_at(F:Nat->Nat->Ch):∀{n j:Nat},j<n->CellsAt (lights F n) (j*12) (ltC (fun k=>F k j))
 | n + 1, j, h => by
   unfold lights;intro t x hx;have ht:t<12:=(List.getElem?_eq_some_iff.1 hx).1;have hl:=lights_len F n;rcases Nat.lt_or_ge j n with h'|h'
   ·rw[List.getElem?_append_left (by rw[hl];omega)];exact lights_at F h' t x hx
   ·obtain rfl:j=n:=by omega
    rw[List.getElem?_append_right (by rw[hl];omega),hl,show j*12+t-j*12=t by omega];exact hx
end Bu
namespace Go.Proofs.YtejcekikbnlllaaGreat
open Go.RowKit Bu Rx
def allE(N:Nde)(v u:V3)(cs:List SV)(k:Nat):(Nat->Ch)->Nat->Ch×Int:=fun l i=>evN N v u k l (ndR cs (i*19))
def ltF(N:Nde)(v u:V3)(cs:List SV)(k i:Nat):Ch:=chF (allE N v u cs k) i
def evNB(N:Nde)(v u:V3)(l:Nat->Nat->Ch)(n:Nd):Bool:=
 (bif decide (n.k=5)then true
 else bif decide (n.k=6)then(Bu.obsB (N.dO v.z ⟨n.f 14,n.f 14⟩)&&decide ((N.D v.z ⟨n.f 14,n.f 14⟩).2=0))&&(Bu.obsB (N.dO u.z ⟨n.f 14,n.f 14⟩)&&decide ((N.D u.z ⟨n.f 14,n.f 14⟩).2=0))
 else Bu.obsB (lfOb N v u n 0)&&(Bu.obsB (lfOb N v u n 1)&&Bu.obsB (lfOb N v u n 2)))&&
 (decide ((evN N v u 0 (l 0) n).2=0)&&(decide ((evN N v u 1 (l 1) n).2=0)&&decide ((evN N v u 2 (l 2) n).2=0)))
def evB(N:Nde)(v u:V3)(cs:List SV)(len:Nat):Bool:=
 (List.range len).all fun i=>evNB N v u (fun k j=>(chL (allE N v u cs k) i).getD j Ch.zero) (ndR cs (i*19))
theorem evB_at{N:Nde}{v u:V3}{cs:List SV}{len:Nat}(h:evB N v u cs len=true){i:Nat}(hi:i<len):evNB N v u (fun k j=>(chL (allE N v u cs k) i).getD j Ch.zero) (ndR cs (i*19))=true:=List.all_eq_true.1 h i (List.mem_range.2 hi)
theorem ndOb_ok{e0 e1 e2:Int}{o0 o1 o2 t:Obs}(h0:e0=0)(h1:e1=0)(h2:e2=0)(k0:ObsOk o0)(k1:ObsOk o1)(k2:ObsOk o2)(ht:ObsOk t):ObsOk (ndOb e0 e1 e2 o0 o1 o2 t):=by subst h0 h1 h2;exact ob_c rfl (ob_a (ob_a k2 ob_n) (ob_c rfl (ob_a (ob_a k1 ob_n) (ob_c rfl (ob_a (ob_a k0 ob_n) ht)))))
theorem rdOb_ok{F:Nat->Nat->Ch}{n:Nat}{a:Int}{k:Nat}(h0:0<=a)(h:a<n)(hk:k<3):ObsOk (rdOb (lights F n) n a k):=by obtain⟨_,c1,c2⟩:=lc_at (lights_at F (show a.toNat<n by omega)) k hk;have ix:=ix_of h0 h;have ik:=ix_of (a:=(k:Int)) (n:=3) (by omega) (by omega);exact ob_c c2 (ob_c ik (ob_c ix (ob_c c1 (ob_c ik (ob_c ix ob_n)))))
theorem evHd_ok{cells:List SV}{off len i:Nat}(hc:ckAll cells (off+i*19) ndCK=true)(hi:i<len):ObsOk (evHd cells off len (i:Int)):=by unfold evHd;rw[tN];exact ob_c hc (ob_c (ix_of (by omega) (by omega)) (ob_c (dT (by omega)) ob_n))
theorem evAp_ok{F:Nat->Nat->Ch}{n:Nat}(h:n<4096):evAp (lights F n) n=true:=by
 unfold evAp;have hm:4096<=maxLen:=by decide
 rw[lights_len,dT (show(1:Nat)<=1 by omega),dT (show n+1<=maxLen by omega),dT (show(n+1)*96<=140737488355328 by omega),dT (show 0+1*12<=12 by omega),dT rfl];rfl
theorem beq_t{a b:Int}(h:a=b):(a==b)=true:=by rw[h];exact beq_self_eq_true b
theorem beq_f{a b:Int}(h:a≠b):(a==b)=false:=by simpa using h
section
variable {N:Nde} {o:List SV->Nat->Bool} (hO:OracleOk prog (OE o N)) {e:TypeId} {cells cs:List SV} {v u:V3} {off len cap i:Nat} {x:Nat->SV} {B:Bs} (hB1:B.M.length=1) (K:OkPg cs len) (hca:CellsAt cells off cs) (hB:evNB N v u (fun k j=>(chL (allE N v u cs k) i).getD j Ch.zero) (ndR cs (i*19))=true) (hi:i<len)
include hO hB1 K hca hB hi
theorem ev_round:RunsB prog B eBd (evS e cells (lights (ltF N v u cs) i) v u off len cap i (i:Int) x none) .normal (fun t=>∃x',t=evS e cells (lights (ltF N v u cs) (i+1)) v u off len cap (i+1) ((i+1:Nat):Int) x' none):=by
 have hK:=K.hi;obtain⟨hck,hnr⟩:=K.at hca hi;have hw:IntKind.i64.wrap ((i:Int)+1)=((i+1:Nat):Int):=wrap_s (by omega);have hk:∀(j:Nat),∀n,n<B.M.length->([0,1,2,3,j]:List Nat)[n]? =some n:=fun j n hn=>by
  rw[hB1]at hn;have:n=0:=by omega
  subst this;rfl
 have hnd0:nd0 cells off (i:Int)=ndR cs (i*19):=by unfold nd0;rw[tN];exact hnr
 have hH:=evHd_ok (len:=len) hck hi;have hA:=evAp_ok (F:=ltF N v u cs) (n:=i) (by omega);have b:=hB;have hnd:=K.nd i hi;have hF:∀k,ltF N v u cs k i=(evN N v u k (fun j=>(chL (allE N v u cs k) i).getD j Ch.zero) (ndR cs (i*19))).1:=fun _=>rfl;have g:∀{a:Int}(k:Nat),0<=a->a<i->(chL (allE N v u cs k) i).getD a.toNat Ch.zero=ltF N v u cs k a.toNat:=fun _ _ _=>chL_get _ (by omega);have gl:∀{a:Int}(k:Nat),k<3->0<=a->a<i->lcAt (lights (ltF N v u cs) i) k a.toNat=ltF N v u cs k a.toNat:=fun k h3 h0 h1=>(lc_at (lights_at (ltF N v u cs) (by omega)) k h3).1;have hrow:lights (ltF N v u cs) (i+1)=lights (ltF N v u cs) i++ltC (fun k=>ltF N v u cs k i):=rfl;rw[hrow];unfold evNB at b;simp only[aTz,decide_eq_true_eq]at b;obtain⟨b0,b1,b2,b3⟩:=b;generalize ndR cs (i*19)=n at hnd hnd0 b0 b1 b2 b3 hF;by_cases h5:n.k=5
 ·obtain⟨⟨a0,a1⟩,c0,c1⟩:=okNd_mix hnd h5;have ev:∀k,k<3->mixC N.K (n.f 15) (lcAt (lights (ltF N v u cs) i) k n.a.toNat) (lcAt (lights (ltF N v u cs) i) k n.b.toNat)=evN N v u k (fun j=>(chL (allE N v u cs k) i).getD j Ch.zero) n:=fun k h3=>by unfold evN;rw[dT h5,cT,gl k h3 a0 a1,gl k h3 c0 c1];show _=mixC N.K (n.f 15) ((chL (allE N v u cs k) i).getD n.a.toNat Ch.zero) ((chL (allE N v u cs k) i).getD n.b.toNat Ch.zero);rw[g k a0 a1,g k c0 c1]
  have hob:ObsOk (evA N o e cells (lights (ltF N v u cs) i) v u off len cap i (i:Int) x dMx).ob:=by rw[evOm];unfold mxObs;rw[hnd0,ev 0 (by decide),ev 1 (by decide),ev 2 (by decide)];refine ob_c hA (ndOb_ok b1 b2 b3 (ob_a (rdOb_ok c0 c1 (by decide)) (rdOb_ok a0 a1 (by decide))) (ob_a (rdOb_ok c0 c1 (by decide)) (rdOb_ok a0 a1 (by decide))) (ob_a (rdOb_ok c0 c1 (by decide)) (rdOb_ok a0 a1 (by decide))) (ob_a (ob_c (beq_t h5) ob_n) hH))
  have hM:=evMm N o e cells (lights (ltF N v u cs) i) v u off len cap i (i:Int) x;rw[hnd0,ltC_ext (d:=fun k=>ltF N v u cs k i) (fun k h3=>by rw[ev k h3];exact(hF k).symm)]at hM;refine RunsB.re (d:=some dMx) (o:=[]) (RunsB.sel (RunsP.bs (Lands.runs goodG hO (evLm N o e cells (lights (ltF N v u cs) i) v u off len cap i (i:Int) x) hob)) rfl hM (hk 19) fun vv=> ?_);refine⟨_,⟨evXm N o e cells (lights (ltF N v u cs) i) v u off len cap i (i:Int) x vv,rfl⟩,same_eq ?_ ?_⟩
  ·have hT:=evTm N o e cells (lights (ltF N v u cs) i) v u off len cap i (i:Int) x vv;rw[hw]at hT;exact(hT _).symm
  ·rw[sel_M];rfl
 by_cases h6:n.k=6
 ·obtain⟨a0,a1⟩:=okNd_coat hnd h6;rw[dF h5,dT h6,cF,cT]at b0;simp only[aTz,decide_eq_true_eq]at b0;obtain⟨⟨v1,v2⟩,u1,u2⟩:=b0;have ev:∀k,k<3->overC N.K (N.D v.z ⟨n.f 14,n.f 14⟩).1 (N.D u.z ⟨n.f 14,n.f 14⟩).1 (n.f (3+k)) (lcAt (lights (ltF N v u cs) i) k n.a.toNat)=evN N v u k (fun j=>(chL (allE N v u cs k) i).getD j Ch.zero) n:=fun k h3=>by unfold evN;rw[dF h5,dT h6,cF,cT,gl k h3 a0 a1];show _=overC N.K (N.D v.z ⟨n.f 14,n.f 14⟩).1 (N.D u.z ⟨n.f 14,n.f 14⟩).1 (n.f (3+k)) ((chL (allE N v u cs k) i).getD n.a.toNat Ch.zero);rw[g k a0 a1]
  have hob:ObsOk (evA N o e cells (lights (ltF N v u cs) i) v u off len cap i (i:Int) x dCo).ob:=by rw[evOc];unfold coObs ovE coO;rw[hnd0,ev 0 (by decide),ev 1 (by decide),ev 2 (by decide)];refine ob_c hA (ndOb_ok b1 b2 b3 (rdOb_ok a0 a1 (by decide)) (rdOb_ok a0 a1 (by decide)) (rdOb_ok a0 a1 (by decide)) (ob_c (beq_t u2) (ob_a (ob_a (ob_a (Bu.obsB_ok u1) (ob_c (ne_0 v2) (ob_a (Bu.obsB_ok v1) ob_n))) (ob_c (beq_t h6) (ob_c (beq_f h5) ob_n))) hH)))
  have hM:=evMc N o e cells (lights (ltF N v u cs) i) v u off len cap i (i:Int) x;unfold ovE at hM;rw[hnd0,ltC_ext (d:=fun k=>ltF N v u cs k i) (fun k h3=>by rw[ev k h3];exact(hF k).symm)]at hM;refine RunsB.re (d:=some dCo) (o:=[]) (RunsB.sel (RunsP.bs (Lands.runs goodG hO (evLc N o e cells (lights (ltF N v u cs) i) v u off len cap i (i:Int) x) hob)) rfl hM (hk 20) fun vv=> ?_);refine⟨_,⟨evXc N o e cells (lights (ltF N v u cs) i) v u off len cap i (i:Int) x vv,rfl⟩,same_eq ?_ ?_⟩
  ·have hT:=evTc N o e cells (lights (ltF N v u cs) i) v u off len cap i (i:Int) x vv;rw[hw]at hT;exact(hT _).symm
  ·rw[sel_M];rfl
 ·rw[dF h5,dF h6,cF,cF]at b0;simp only[aTz]at b0;obtain⟨l0,l1,l2⟩:=b0;have ev:∀k,evN N v u k (fun j=>(chL (allE N v u cs k) i).getD j Ch.zero) n=(⟨(N.g (lfE v u k n)).1,I.zero⟩,(N.g (lfE v u k n)).2):=fun k=>by unfold evN;rw[dF h5,dF h6,cF,cF]
  rw[ev]at b1 b2 b3;have hob:ObsOk (evA N o e cells (lights (ltF N v u cs) i) v u off len cap i (i:Int) x dLf).ob:=by rw[evOl];unfold lfObs;rw[hnd0];exact ob_c hA (ndOb_ok b1 b2 b3 (Bu.obsB_ok l0) (Bu.obsB_ok l1) (Bu.obsB_ok l2) (ob_a (ob_c (beq_f h6) (ob_c (beq_f h5) ob_n)) hH))
  have hM:=evMl N o e cells (lights (ltF N v u cs) i) v u off len cap i (i:Int) x;rw[hnd0,ltC_ext (d:=fun k=>ltF N v u cs k i) (fun k h3=>by rw[hF k,ev k])]at hM;refine RunsB.re (d:=some dLf) (o:=[]) (RunsB.sel (RunsP.bs (Lands.runs goodG hO (evLl N o e cells (lights (ltF N v u cs) i) v u off len cap i (i:Int) x) hob)) rfl hM (hk 19) fun vv=> ?_);refine⟨_,⟨evXl N o e cells (lights (ltF N v u cs) i) v u off len cap i (i:Int) x vv,rfl⟩,same_eq ?_ ?_⟩
  ·have hT:=evTl N o e cells (lights (ltF N v u cs) i) v u off len cap i (i:Int) x vv;rw[hw]at hT;exact(hT _).symm
  ·rw[sel_M];rfl
end
end Go.Proofs.YtejcekikbnlllaaGreat
namespace Rx
open Go Go.RowKit
theorem RunsB.numr{P:Program}{B:Bs}{c:Code}{s:St}{ex:Ex}{Φ Ψ:St->Prop}(h:RunsB P B c s ex Φ)
  (k:∀t,Φ t->∃n e cells z,t.M[n]? =some ⟨e,cells,.row z⟩/\idsLts 0 cells=true/\Ψ ⟨t.T,t.M.set n ⟨e,cells,.rown z⟩,t.ds,t.ob⟩):RunsB P B c s ex Ψ:=by
 intro m a w Q hs hg hq;refine h m a w Q hs hg fun t m' a' w' h1 hst hg'=> ?_;obtain⟨n,e,cells,z,hb,hi,hΨ⟩:=k t h1;have hnl:n<t.M.length:=(List.getElem?_eq_some_iff.1 hb).1;have lv:∀j,liveM (t.M.set n ⟨e,cells,.rown z⟩) j->liveM t.M j:=fun j hl=>by
  obtain⟨b,h2,h3⟩:=hl;rw[List.getElem?_set]at h2;split at h2
  ·rename_i e1;subst e1;exact⟨_,hb,rfl⟩
  ·exact⟨b,h2,h3⟩
 refine hq _ m' a' w' hΨ ⟨hst.tm,hst.df,⟨hst.mem.ok,fun j j' q l1 l2 h1 h2=>hst.mem.inj j j' q (lv j l1) (lv j' l2) h1 h2,fun j b hj=> ?_,fun j q hj=> ?_⟩⟩ ⟨hg'.ext,hg'.fr,hg'.new,fun j q hj hl=>hg'.dd j q hj (lv j hl)⟩
 ·have hj0:(t.M.set n ⟨e,cells,.rown z⟩)[j]? =some b:=hj;rw[List.getElem?_set]at hj0;split at hj0
  ·rename_i e1;subst e1;simp only[sIz]at hj0;subst hj0;obtain⟨r,hr,hat⟩:=hst.mem.blk n _ hb;refine⟨r,hr,fun _=> ?_⟩;obtain⟨cv,sp,d1,h2,k1⟩:=hat rfl;exact⟨cv,sp,d1,h2,⟨k1,hi⟩⟩
  ·exact hst.mem.blk j b hj0
 ·show j<(t.M.set n _).length;rw[List.length_set];exact hst.mem.dom j q hj
theorem RunsB.keep{P:Program}{B:Bs}{d:Code}{t:St}{ex:Ex}{Φ:St->Prop}{ids:List Nat}{M':List Blk}(hn:nodupB ids=true)(hM:selM t.M ids=some M')(hk:∀(n:Nat),n<B.M.length->ids[n]? =some n)(h:∀v,RunsB P B d (t.sel ids M' v) ex Φ):RunsB P B d t ex Φ:=
 fun m _ w Q hs hg hq=>h _ (m.sel ids) _ w Q (hs.sel hn hM) (hg.sel hn hM hk) hq
theorem rd_of_runsB{P:Program}{g:FuncId}{fn:Func}{c:Code}(hg:P.funcs[g]? =some fn)(hb:fn.body=some c){cs l:List SV}{len:Nat}{vc vs:List Value}{x:SV}{v:Value}(hc:plains cs=some vc)(hl:plains l=some vs)(hx:plain x=some v){d:Dec}
  (h:∀(e:TypeId)(cells:List SV)(off cap:Nat),CellsAt cells off cs->idsLts 0 cells=true->∀B:Bs,B.M=[⟨e,cells,.num⟩]->
   RunsB P B c ⟨(.ssl 0 off len cap::l)++List.replicate (fn.ntmps-(l.length+1)) (.tup []),[⟨e,cells,.num⟩],d,[]⟩ .ret (fun t=>resultS P fn t=some x/\∃rest,t.M=⟨e,cells,.num⟩::rest))
  (w:World) (r off cap:Nat) (hw:RowAt w r off vc):Calls P g (Value.slice (some ⟨r,off,none⟩) len cap::vs).toArray w fun e w'=>e= .returned v/\Below w.heap.size w w':=by
 obtain⟨m,e,cells,hM,h0,hca,hid⟩:=rd_cells hc hw;have hd:dens m (.ssl 0 off len cap::l)=some (Value.slice (some ⟨r,off,none⟩) len cap::vs):=dens_cons (by simp only[den,h0,Option.map_some]) (dens_plains hl);refine Calls.mono (RunsB.call hg hb (args:= .ssl 0 off len cap::l) (x:=fun _=>x) hd hM (h e cells off cap hca hid ⟨m,[⟨e,cells,.num⟩],w,hM⟩ rfl) (fun t ht=>ht.1)) fun ex w' ⟨t,m',u,⟨_,rest,hr⟩,he,hv,hM',hgo⟩=> ?_;rw[den_plain hx]at hv;have:=Option.some.inj hv;subst this;rw[hr]at hM' hgo;exact⟨he,Goes.read hM hgo hM'⟩
end Rx
namespace Bu
open Rx Go
theorem lt_s{lc:List SV}{a:Nat}{c:Nat->Ch}(h:CellsAt lc (a*12) (ltC c)):Go.Proofs.YtejcekikbnlllaaGreat.ltS lc a= .agg (ltC c):=by have e0:=h 0 _ rfl;have e1:=h 1 _ rfl;have e2:=h 2 _ rfl;have e3:=h 3 _ rfl;have e4:=h 4 _ rfl;have e5:=h 5 _ rfl;have e6:=h 6 _ rfl;have e7:=h 7 _ rfl;have e8:=h 8 _ rfl;have e9:=h 9 _ rfl;have e10:=h 10 _ rfl;have e11:=h 11 _ rfl;rw[Nat.add_zero]at e0;unfold Go.Proofs.YtejcekikbnlllaaGreat.ltS;simp only[flAt,e0,e1,e2,e3,e4,e5,e6,e7,e8,e9,e10,e11];rfl
end Bu
namespace Go.Proofs.YtejcekikbnlllaaGreat
open Go.RowKit Bu Rx
section
variable {N:Nde} {o:List SV->Nat->Bool} (hO:OracleOk prog (OE o N)) {e:TypeId} {cells cs:List SV} {v u:V3} {off len cap:Nat} {B:Bs} (hB1:B.M.length=1) (K:OkPg cs len) (hca:CellsAt cells off cs)
include hO hB1 K hca
set_option maxRecDepth 20000 in
theorem ev_first(hB:evNB N v u (fun k j=>(chL (allE N v u cs k) 0).getD j Ch.zero) (ndR cs (0*19))=true){x:Nat->SV}:RunsB prog B eBd (evS0 e cells v u off len cap ((0:Nat):Int) x none) .normal (fun t=>∃x',t=evS e cells (lights (ltF N v u cs) 1) v u off len cap 1 ((1:Nat):Int) x' none):=by
 have hi:0<len:=K.lo;obtain⟨hck,hnr⟩:=K.at hca hi;have hk:∀n,n<B.M.length->([0,1,2,3,18]:List Nat)[n]? =some n:=fun n hn=>by
  rw[hB1]at hn;have:n=0:=by omega
  subst this;rfl
 have hnd0:nd0 cells off ((0:Nat):Int)=ndR cs (0*19):=by unfold nd0;rw[tN];exact hnr
 have hH:=evHd_ok (len:=len) hck hi;have b:=hB;have hnd:=K.nd 0 hi;have hF:∀k,ltF N v u cs k 0=(evN N v u k (fun j=>(chL (allE N v u cs k) 0).getD j Ch.zero) (ndR cs (0*19))).1:=fun _=>rfl;have hrow:lights (ltF N v u cs) 1=ltC (fun k=>ltF N v u cs k 0):=rfl;rw[hrow];unfold evNB at b;simp only[aTz,decide_eq_true_eq]at b;obtain⟨b0,b1,b2,b3⟩:=b;generalize ndR cs (0*19)=n at hnd hnd0 b0 b1 b2 b3 hF;have h5:n.k≠5:=fun h5=>by obtain⟨⟨a0,a1⟩,_⟩:=okNd_mix hnd h5;have:((0:Nat):Int)=0:=rfl;omega
 have h6:n.k≠6:=fun h6=>by obtain⟨a0,a1⟩:=okNd_coat hnd h6;have:((0:Nat):Int)=0:=rfl;omega
 rw[dF h5,dF h6,cF,cF]at b0;simp only[aTz]at b0;obtain⟨l0,l1,l2⟩:=b0;have ev:∀k,evN N v u k (fun j=>(chL (allE N v u cs k) 0).getD j Ch.zero) n=(⟨(N.g (lfE v u k n)).1,I.zero⟩,(N.g (lfE v u k n)).2):=fun k=>by unfold evN;rw[dF h5,dF h6,cF,cF]
 rw[ev]at b1 b2 b3;have hob:ObsOk (evZ N o e cells v u off len cap ((0:Nat):Int) x).ob:=by rw[evOz];unfold lfObs;rw[hnd0];exact ndOb_ok b1 b2 b3 (Bu.obsB_ok l0) (Bu.obsB_ok l1) (Bu.obsB_ok l2) (ob_a (ob_c (beq_f h6) (ob_c (beq_f h5) ob_n)) hH)
 have hM:=evMz N o e cells v u off len cap ((0:Nat):Int) x;rw[hnd0,ltC_ext (d:=fun k=>ltF N v u cs k 0) (fun k h3=>by rw[hF k,ev k])]at hM;generalize ltF N v u cs=F at hM ⊢;have hw:IntKind.i64.wrap (((0:Nat):Int)+1)=((1:Nat):Int):=by decide
 refine RunsB.fin (Φ:=fun t=>∃x',t=⟨evT off len cap v u (.osl false 4 (0+1)) (.si .i64 ((1:Nat):Int)) x',evP e cells v u++ [⟨65,ltC (fun k=>F k 0),.rown 12⟩],none,[]⟩) ?_ fun t ⟨x',ht⟩=> ?_
 ·refine RunsB.numr (Φ:=fun t=>∃x',t=⟨evT off len cap v u (.osl false 4 (0+1)) (.si .i64 ((1:Nat):Int)) x',evP e cells v u++ [⟨65,ltC (fun k=>F k 0),.row 12⟩],none,[]⟩) ?_ fun t ⟨x',ht⟩=> ?_
  ·refine RunsB.re (d:=some [true,false,false,true,true,false]) (o:=[]) (RunsB.sel (RunsP.bs (Lands.runs goodG hO (evLz N o e cells v u off len cap ((0:Nat):Int) x) hob)) rfl hM hk fun vv=> ?_);refine⟨_,⟨evXz N o e cells v u off len cap ((0:Nat):Int) x vv,rfl⟩,same_eq ?_ ?_⟩
   ·have hT:=evTz N o e cells v u off len cap ((0:Nat):Int) x vv;rw[hw]at hT;exact(hT _).symm
   ·rw[sel_M]
  ·subst ht;exact⟨4,65,ltC (fun k=>F k 0),12,rfl,rfl,x',rfl⟩
 ·subst ht;exact⟨_,⟨x',rfl⟩,same_T (fun m=>by simp only[evS,evT,dens,den,Nat.zero_add]) rfl⟩
variable (hB:evB N v u cs len=true)
include hB
theorem ev_loop{x:Nat->SV}:RunsB prog B (.block 0 (.loop eBd)) (evS0 e cells v u off len cap ((0:Nat):Int) x none) .normal (fun t=>∃y,t=evS e cells (lights (ltF N v u cs) len) v u off len cap len (len:Int) y none):=by
 have hlo:=K.lo;refine loop_invB (fun(j:Nat)(y:Nat->SV)=>match j with
  |0=>evS0 e cells v u off len cap ((0:Nat):Int) y none
  |j+1=>evS e cells (lights (ltF N v u cs) (j+1)) v u off len cap (j+1) ((j+1:Nat):Int) y none) (fun _ _=>True) len ?_ ?_ _ trivial
 ·intro j y hj _;cases j with
  |zero=>exact RunsB.mono (ev_first hO hB1 K hca (evB_at hB K.lo)) fun t ⟨x',ht⟩=>⟨x',trivial,ht⟩
  |succ j=>exact RunsB.mono (ev_round hO hB1 K hca (evB_at hB hj) hj) fun t ⟨x',ht⟩=>⟨x',trivial,ht⟩
 ·intro y _;obtain⟨n,rfl⟩:∃n,len=n+1:=⟨len-1,by omega⟩;have hob:ObsOk (aft prog EG (OE o N) 60 eBd (evS e cells (lights (ltF N v u cs) (n+1)) v u off (n+1) cap (n+1) ((n+1:Nat):Int) y (some [false]))).ob:=by rw[evXo];exact ob_c (dF (by omega)) ob_n
  refine RunsB.re (d:=some [false]) (o:=[]) (RunsP.bs (Lands.fin goodG hO (evLx N o e cells _ v u off (n+1) cap (n+1) _ y) hob ?_));refine⟨_,⟨_,rfl⟩,same_eq (congrArg St.T (evXo N o e cells _ v u off (n+1) cap (n+1) _ y)).symm (congrArg St.M (evXo N o e cells _ v u off (n+1) cap (n+1) _ y)).symm⟩
set_option maxRecDepth 20000 in
theorem ev_all(ho:o ((cells.drop off).take (len*19)) len=true)(hd:ObsOk (vcO u++vcO v))(hBM:B.M=[⟨e,cells,.num⟩]):RunsB prog B eC (eEn e cells v u off len cap none) .ret
  (fun t=>resultS prog Tryz.f77 t=some (.tup [.agg (ltC (fun k=>ltF N v u cs k (len-1))),.i .i64 0])/\∃rest,t.M=⟨e,cells,.num⟩::rest):=by
 have hlo:=K.lo;have hhi:=K.hi;have hE:ObsOk (evEO o cells v u off len):=by have hu:ObsOk (vcO u):=fun p hp=>hd p (List.mem_append_left _ hp);have hv:ObsOk (vcO v):=fun p hp=>hd p (List.mem_append_right _ hp);exact ob_a hu (ob_a hv (ob_c ho ob_n))
 refine RunsB.re (d:=some (List.replicate 18 true)) (o:=[]) ((evL4 N o e cells v u off len cap).ok goodG hO (by rw[evO4];exact hE) ?_);rw[eC_cut];refine RunsB.seq (Φ:=fun t=>∃y,t=evS e cells (lights (ltF N v u cs) len) v u off len cap len (len:Int) y none) ?_ fun t ⟨y,ht⟩=> ?_
 ·refine LandsB.seq goodG hO (evL5 N o e cells v u off len cap) (by rw[evO5];exact hE) ?_;refine RunsB.keep (ids:=[0,1,2,3]) rfl (evM5 N o e cells v u off len cap) (fun n hn=>by
   rw[hB1]at hn;have:n=0:=by omega
   subst this;rfl) fun vv=> ?_
  have hs:SameSt (evS0 e cells v u off len cap ((0:Nat):Int) (ev5X N o e cells v u off len cap vv) none) ((ev5 N o e cells v u off len cap).sel [0,1,2,3] (evP e cells v u) vv):=by refine same_T (fun m=> ?_) rfl;rw[evT5];simp only[evS0,evT,dens,den,Int.natCast_zero]
  exact RunsB.retell hs (ev_loop hO hB1 K hca hB)
 ·subst ht;have hw:IntKind.i64.wrap ((len:Int)-1)=((len-1:Nat):Int):=by rw[IntKind.wrap_i64];omega
  have hat:=lights_at (ltF N v u cs) (show len-1<len by omega);refine RunsP.bs (Lands.all goodG hO (evEL N o e cells _ v u off len cap len (len:Int) y) ?_ ⟨?_,evEM N o e cells _ v u off len cap len (len:Int) y⟩)
  ·rw[evEO_,hw,tN];exact ob_c (lt_ck hat) (ob_c (ix_of (by omega) (by omega)) ob_n)
  ·rw[evER,hw,tN,lt_s hat]
end
def ltV(c:Nat->Ch):Value:= .agg #[.float .f64 (c 0).p.lo.b,.float .f64 (c 0).p.hi.b,.float .f64 (c 1).p.lo.b,.float .f64 (c 1).p.hi.b,.float .f64 (c 2).p.lo.b,.float .f64 (c 2).p.hi.b,.float .f64 (c 0).m.lo.b,.float .f64 (c 0).m.hi.b,.float .f64 (c 1).m.lo.b,.float .f64 (c 1).m.hi.b,.float .f64 (c 2).m.lo.b,.float .f64 (c 2).m.hi.b]
theorem lt_plain(c:Nat->Ch):plain (.tup [.agg (ltC c),.i .i64 0])=some (.tuple #[ltV c,.int .i64 0]):=rfl
theorem vnK:PlainOk prog 231 (kVn (vlG GmR KkR) vlO):=by
 intro args ds x ds' ob h ho;unfold kVn at h;split at h
 ·rename_i y ch p0 p1 p2 p3 p4 p5 r0 r1 r2 r3 r4 r5;split at h
  ·rename_i n c hn hc;simp only[sIz,pIz]at h;obtain⟨rfl,_,rfl⟩:=h;have ha:n.a=0:=oTz (ho _ (List.mem_cons_self ..));have hb:n.b=0:=oTz (ho _ (List.mem_cons_of_mem _ (List.mem_cons_self ..)));have h4:ObsOk (vlO ⟨n.k,etaF n.f,c,⟨⟨p0,p1⟩,⟨p2,p3⟩,⟨p4,p5⟩⟩,⟨⟨r0,r1⟩,⟨r2,r3⟩,⟨r4,r5⟩⟩⟩):=fun p hp=>ho p (List.mem_cons_of_mem _ (List.mem_cons_of_mem _ hp));have hy:=ndOf_plain hn;have hch:=intS_plain hc;have hnd:ndV n=nodeV n.k (etaF n.f):=by unfold ndV;rw[ha,hb];rfl
   rw[hnd]at hy;obtain⟨vs,v,h5,h6,h7⟩:=valK (vArgs n.k (etaF n.f) c ⟨⟨p0,p1⟩,⟨p2,p3⟩,⟨p4,p5⟩⟩ ⟨⟨r0,r1⟩,⟨r2,r3⟩,⟨r4,r5⟩⟩) ds _ ds _ rfl h4;refine⟨vs,v,?_,h6,h7⟩;rw[<-h5];have e1:plain (nodeS n.k (etaF n.f))=some (nodeV n.k (etaF n.f)):=(nd_pl _ _).1;have e2:plain (.si .i64 c)=some (.int .i64 c):=rfl;show plains (y::ch::_)=plains (nodeS n.k (etaF n.f):: .si .i64 c::_);unfold plains plains;rw[hy,e1,hch,e2];rfl
  ·cases h
 ·cases h
structure Nee where
 o:List SV->Nat->Bool
 g:V3->V3->List SV->Nat->Nat->Ch
 b:V3->V3->List SV->Nat->Bool
noncomputable def NeR:Nde:=⟨KkR,fun c n=>lnR (fdK KkR c n) 0,fdO,vlG GmR KkR,vlO⟩
theorem oracleOE:OracleOk prog (OE okPg NeR):=
 .cons addC <| .cons subC <| .cons mulC <| .cons divC <| .cons cmax_I <| .cons sqrC <| .cons csqrt_I <|
 .cons negC <|
 .cons numC <| .cons irtK.of <| .cons rightG.of <| .cons absG.of <| .cons vwG.of <| .cons piG.of <| .cons rgtG.of <| .cons fdG.of <| .cons vnK.of <| .nil _
section
variable (E:Nee) (un:F->F->F->V3) (ub:F->F->F->Bool) (e:TypeId) (cells:List SV) (off len cap:Nat) (x y z r s t:F)
end
end Go.Proofs.YtejcekikbnlllaaGreat
namespace Rx
open Go Go.RowKit
section
variable {P:Program} {B:Bs}
theorem RunsB.seq_ret{c d:Code}{s:St}{Φ:St->Prop}(h:RunsB P B c s .ret Φ):RunsB P B (.seq c d) s .ret Φ:=by intro m a w Q hs hg hq;exact wp_seq (h m a w _ hs hg fun s1 m' a' w' h1 hs' hg'=>hq s1 m' a' w' h1 hs' hg')
theorem RunsB.block_ret{id:Nat}{c:Code}{s:St}{Φ:St->Prop}(h:RunsB P B c s .ret Φ):RunsB P B (.block id c) s .ret Φ:=by intro m a w Q hs hg hq;refine wp_block (h m a w _ hs hg fun s1 m' a' w' h1 hs' hg'=> ?_);exact hq s1 m' a' w' h1 hs' hg'
theorem RoundsB.ret{n:Nat}{c:Code}{s:St}{Φ:St->Prop}(h:RunsB P B c s .ret Φ):RoundsB P B c (n+1) s .ret Φ:=by intro m a w Q hs hg hq;rw[rounds_succ];exact h m a w _ hs hg fun s1 m' a' w' h1 hs' hg'=>hq s1 m' a' w' h1 hs' hg'
theorem loop_outB{body:Code}{id:Nat}{Φ:St->Prop}{α:Type}(S:α->St)(μ:α->Nat)(I:α->Prop)
  (h:∀x,I x->RunsB P B body (S x) (.exit id) Φ\/RunsB P B body (S x) .normal (fun t=>∃x',I x'/\μ x'<μ x/\t=S x')) (x:α) (h0:I x):RunsB P B (.block id (.loop body)) (S x) .normal Φ:=by
 refine RunsB.block (RunsB.loop (n:=μ x+1) ?_);have key:∀n x,μ x<=n->I x->RoundsB P B body (n+1) (S x) (.exit id) Φ:=by
  intro n
  induction n with
  | zero =>
    intro x h1 hi;rcases h x hi with g|g
    ·exact RoundsB.out g
    ·exact RoundsB.next g fun t ⟨x',_,h2,_⟩=>absurd h2 (by omega)
  | succ n ih =>
    intro x h1 hi;rcases h x hi with g|g
    ·exact RoundsB.out g
    ·exact RoundsB.next g fun t ⟨x',hx,h2,ht⟩=>by subst ht;exact ih x' (by omega) hx
 exact key (μ x) x (Nat.le_refl _) h0
theorem loop_retB{body:Code}{id:Nat}{Φ:St->Prop}{α:Type}(S:α->St)(μ:α->Nat)(I:α->Prop)
  (h:∀x,I x->RunsB P B body (S x) .ret Φ\/RunsB P B body (S x) .normal (fun t=>∃x',I x'/\μ x'<μ x/\t=S x')) (x:α) (h0:I x):RunsB P B (.block id (.loop body)) (S x) .ret Φ:=by
 refine RunsB.block_ret (RunsB.loop (n:=μ x+1) ?_);have key:∀n x,μ x<=n->I x->RoundsB P B body (n+1) (S x) .ret Φ:=by
  intro n
  induction n with
  | zero =>
    intro x h1 hi;rcases h x hi with g|g
    ·exact RoundsB.ret g
    ·exact RoundsB.next g fun t ⟨x',_,h2,_⟩=>absurd h2 (by omega)
  | succ n ih =>
    intro x h1 hi;rcases h x hi with g|g
    ·exact RoundsB.ret g
    ·exact RoundsB.next g fun t ⟨x',hx,h2,ht⟩=>by subst ht;exact ih x' (by omega) hx
 exact key (μ x) x (Nat.le_refl _) h0
end
end Rx
