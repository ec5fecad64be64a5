/- layer 21: the chapter's examples. EvalBack by the reckoner: pieces. WeighBelow by the .. -/
import Derived.Test.YtejcekikbnlllaaGreatU16
set_option linter.all false
open Go.Proofs.Tryz(prog)
namespace Go.Proofs.YtejcekikbnlllaaGreat
open Go.RowKit Bu Rx
def prgB_O(g:List SV->Nat->List SV)(b:List SV->Nat->Bool):OF:=eiO (kPr g b) (kPz g)
structure NWl where
 N:Npr
 g:List SV->Nat->List SV
 b:List SV->Nat->Bool
 o:List SV->Nat->Bool
 S:Nsm
 E:Nev
 D:Nce
 un:F->F->F->V3
 ub:F->F->F->Bool
 K:Kk
 me:I->I->Bool
def OWWl(W:NWl):OracleF:=lookO ([(15,prgB_O W.g W.b),(36,plainO (kBw W.N.b W.N.p W.N.w)),(49,kRd 19 (kSm W.S)),(50,kRd 19 (kRgt W.o)),(47,kRd 19 (kDw W.S.D.g W.S.D.o)),(24,kRd 19 (kWgA W.S.T)),(25,kRd 19 (kEe W.E W.un W.ub)),(17,plainO (kUnN W.un W.ub)),(27,plainO (kBII W.me)),(31,plainO (oConst (.b true)))]++OCL W.K)
noncomputable def wlC:Code:=bodyOf prog 8
theorem wlBody:Tryz.f8.body=some wlC:=by kernel_rfl
structure QWl where
 a:Int
 b:Int
 c:Int
 x:Int
 y:Int
 z:Int
def QWl.v(q:QWl):List SV:=[.si .u32 q.a,.si .u32 q.b,.si .u32 q.c]
def QWl.u(q:QWl):List SV:=[.si .u64 q.x,.si .u64 q.y,.si .u64 q.z]
def QWl.args(q:QWl):List SV:=[.agg q.v,.agg q.u]
noncomputable def wlA(el:TypeId)(z:Nat×Nat)(cells:List SV)(off len cap:Nat)(q:QWl):St:=⟨(.ssl 0 off len cap::q.args)++List.replicate (Tryz.f8.ntmps-3) (.tup []),[⟨el,cells,.ro z⟩],none,[]⟩
noncomputable def wlZ(q:QWl):St:=⟨(.o (.slice none 0 0)::q.args)++List.replicate (Tryz.f8.ntmps-3) (.tup []),[],none,[]⟩
def wlT(n:Nat)(x:Nat->SV):List SV:=
 [x 0,x 1,x 2,x 3,.p 0 0,.p 1 0,.b false,.osl true 2 n,.p 3 0,x 9,x 10,x 11,x 12,x 13,x 14,x 15,x 16,x 17,x 18,x 19,x 20,x 21,x 22,x 23,x 24,x 25,x 26,x 27,x 28,x 29,x 30,x 31,x 32,x 33,x 34,x 35,x 36,x 37,x 38,x 39,x 40,x 41,x 42,x 43,x 44,x 45,x 46,x 47,x 48,x 49,x 50,x 51,x 52,x 53,x 54,x 55,x 56,x 57,x 58,x 59,x 60,x 61,x 62,x 63,x 64,x 65,x 66,x 67,x 68,x 69,x 70,x 71,x 72,x 73,x 74,x 75,x 76,x 77,x 78,x 79,x 80,x 81,x 82,x 83,x 84,x 85,x 86,x 87,x 88,x 89,x 90,x 91,x 92,x 93,x 94,x 95,x 96,x 97,x 98,x 99,x 100,x 101,x 102,x 103,x 104,x 105,x 106,x 107,x 108,x 109]
def wlM(pc:List SV)(q:QWl)(X Y Z:F):List Blk:=[⟨24,q.v,.ex⟩,⟨89,q.u,.ex⟩,⟨50,pc,.rown 19⟩,⟨30,[.fl X,.fl Y,.fl Z],.ex⟩]
def wlS(pc:List SV)(n:Nat)(q:QWl)(X Y Z:F)(x:Nat->SV)(d:Dec):St:=⟨wlT n x,wlM pc q X Y Z,d,[]⟩
noncomputable abbrev wlA2(W:NWl)(el:TypeId)(z:Nat×Nat)(cells:List SV)(off len cap:Nat)(q:QWl):St:=aftN prog EG (OWWl W) 60 2 wlC (wlA el z cells off len cap q)
noncomputable abbrev wlZ2(W:NWl)(q:QWl):St:=aftN prog EG (OWWl W) 60 2 wlC (wlZ q)
theorem wlLa(W:NWl)(el:TypeId)(z:Nat×Nat)(cells:List SV)(off len cap:Nat)(q:QWl):LandsN prog EG (OWWl W) 60 2 wlC (wlA el z cells off len cap q):=by unfold LandsN;kernel_rfl
theorem wlLz(W:NWl)(q:QWl):LandsN prog EG (OWWl W) 60 2 wlC (wlZ q):=by unfold LandsN;kernel_rfl
def wlX(W:NWl)(q:QWl):F:=W.N.b mone64 one64 q.a
def wlY(W:NWl)(q:QWl):F:=W.N.b mone64 one64 q.b
def wlZz(W:NWl)(q:QWl):F:=W.N.b d64 one64 q.c
section
variable (W:NWl) (el:TypeId) (z:Nat×Nat) (cells:List SV) (off len cap:Nat) (q:QWl)
theorem wlOa:(wlA2 W el z cells off len cap q).ob=dirU W.N q.a q.b q.c++ [(decide (len<=cap),true),(W.b ((cells.drop off).take (len*8)) len,true)]:=by kernel_rfl
theorem wlOz:(wlZ2 W q).ob=dirU W.N q.a q.b q.c:=by kernel_rfl
theorem wlRa:∃rest,(wlA2 W el z cells off len cap q).M=[⟨el,cells,.ro z⟩]++rest:=⟨wlM (W.g ((cells.drop off).take (len*8)) len) q (wlX W q) (wlY W q) (wlZz W q),by kernel_rfl⟩
theorem wlMa:selM (wlA2 W el z cells off len cap q).M [1,2,3,4]=some (wlM (W.g ((cells.drop off).take (len*8)) len) q (wlX W q) (wlY W q) (wlZz W q)):=by kernel_rfl
theorem wlMz:selM (wlZ2 W q).M [0,1,2,3]=some (wlM (W.g [] 0) q (wlX W q) (wlY W q) (wlZz W q)):=by kernel_rfl
noncomputable def wlXa(v:Nat->Value):Nat->SV:=fun j=>((wlA2 W el z cells off len cap q).sel [1,2,3,4] [] v).T.getD j .np
noncomputable def wlXz(v:Nat->Value):Nat->SV:=fun j=>((wlZ2 W q).sel [0,1,2,3] [] v).T.getD j .np
theorem wlTa(v:Nat->Value)(M':List Blk):((wlA2 W el z cells off len cap q).sel [1,2,3,4] M' v).T=wlT (prK len+1) (wlXa W el z cells off len cap q v):=by kernel_rfl
theorem wlTz(v:Nat->Value)(M':List Blk):((wlZ2 W q).sel [0,1,2,3] M' v).T=wlT 1 (wlXz W q v):=by kernel_rfl
end
theorem wl_calls{W:NWl}(hO:OracleOk prog (OWWl W)){el:TypeId}{z:Nat×Nat}{cells:List SV}{off len cap:Nat}{q:QWl}{m:Nms}{w:World}{vs:List Value}(hM:MemAt m w [⟨el,cells,.ro z⟩])(hvs:dens m (.ssl 0 off len cap::q.args)=some vs)
  (hc:len<=cap) (hb:W.b ((cells.drop off).take (len*8)) len=true) (hd:ObsOk (dirU W.N q.a q.b q.c))
  (hr:∀(B:Bs)(x:Nat->SV),B.M.length=4->RunsB prog B (post 2 wlC) (wlS (W.g ((cells.drop off).take (len*8)) len) (prK len+1) q (wlX W q) (wlY W q) (wlZz W q) x none) .ret (fun t=>resultS prog Tryz.f8 t=some (.b true))) :
  Calls prog 8 vs.toArray w fun e w'=>e= .returned (.bool true)/\Below w.heap.size w w':=by
 refine RunsW.call (d:=none) Tryz.func8 wlBody (x:= .b true) rfl hvs hM ?_;show RunsW prog ⟨m,[⟨el,cells,.ro z⟩],w,hM⟩ wlC (wlA el z cells off len cap q) .ret _;refine runW_ok goodG hO (wlLa W el z cells off len cap q) (by rw[wlOa];exact ob_a hd (ob_c (dT hc) (ob_c hb ob_n))) ?_;obtain⟨rest,hrr⟩:=wlRa W el z cells off len cap q;refine RunsW.fresh (ids:=[1,2,3,4]) (fun b hb=>by rw[List.mem_singleton]at hb;subst hb;rfl) hrr rfl (wlMa W el z cells off len cap q) (fun j n hj=>by have hl:j<4:=(List.getElem?_eq_some_iff.1 hj).1;rcases (by omega:j=0\/j=1\/j=2\/j=3)with rfl|rfl|rfl|rfl<;>simp at hj<;>subst hj<;>simp) (fun b hb=>by simp only[wlM,List.mem_cons,List.not_mem_nil,or_false]at hb;rcases hb with rfl|rfl|rfl|rfl<;>rfl) fun B' v hB'=> ?_;have hs:SameSt (wlS (W.g ((cells.drop off).take (len*8)) len) (prK len+1) q (wlX W q) (wlY W q) (wlZz W q) (wlXa W el z cells off len cap q v) none) ((wlA2 W el z cells off len cap q).sel [1,2,3,4] (wlM (W.g ((cells.drop off).take (len*8)) len) q (wlX W q) (wlY W q) (wlZz W q)) v):=same_eq (wlTa W el z cells off len cap q v _).symm rfl;exact RunsB.retell hs (hr B' _ (by rw[hB'];rfl))
theorem wl_nil{W:NWl}(hO:OracleOk prog (OWWl W)){q:QWl}{w:World}{vs:List Value}(hvs:dens Nms.no (.o (.slice none 0 0)::q.args)=some vs)(hd:ObsOk (dirU W.N q.a q.b q.c))
  (hr:∀(B:Bs)(x:Nat->SV),B.M.length=4->RunsB prog B (post 2 wlC) (wlS (W.g [] 0) 1 q (wlX W q) (wlY W q) (wlZz W q) x none) .ret (fun t=>resultS prog Tryz.f8 t=some (.b true))) :
  Calls prog 8 vs.toArray w fun e w'=>e= .returned (.bool true)/\Below w.heap.size w w':=by
 refine RunsW.call (d:=none) Tryz.func8 wlBody (x:= .b true) rfl hvs (MemAt.no w) ?_;show RunsW prog ⟨Nms.no,[],w,MemAt.no w⟩ wlC (wlZ q) .ret _;refine runW_ok goodG hO (wlLz W q) (by rw[wlOz];exact hd) ?_;refine RunsW.fresh (rest:=(wlZ2 W q).M) (ids:=[0,1,2,3]) (fun b hb=>by cases hb) (List.nil_append _).symm rfl (wlMz W q) (fun j n hj=>Nat.zero_le _) (fun b hb=>by simp only[wlM,List.mem_cons,List.not_mem_nil,or_false]at hb;rcases hb with rfl|rfl|rfl|rfl<;>rfl) fun B' v hB'=> ?_;have hs:SameSt (wlS (W.g [] 0) 1 q (wlX W q) (wlY W q) (wlZz W q) (wlXz W q v) none) ((wlZ2 W q).sel [0,1,2,3] (wlM (W.g [] 0) q (wlX W q) (wlY W q) (wlZz W q)) v):=same_eq (wlTz W q v _).symm rfl;exact RunsB.retell hs (hr B' _ (by rw[hB'];rfl))
end Go.Proofs.YtejcekikbnlllaaGreat
namespace Bu
open Rx Go
end Bu
namespace Go.Proofs.YtejcekikbnlllaaGreat
open Go.RowKit Bu Rx
end Go.Proofs.YtejcekikbnlllaaGreat
namespace Bu
open Rx Go
end Bu
namespace Go.Proofs.YtejcekikbnlllaaGreat
open Go.RowKit Bu Rx
end Go.Proofs.YtejcekikbnlllaaGreat
namespace Bu
open Rx Go Ieee
end Bu
namespace Go.Proofs.YtejcekikbnlllaaGreat
open Go.RowKit Bu Rx
end Go.Proofs.YtejcekikbnlllaaGreat
namespace Bu
open Rx Go
end Bu
namespace Go.Proofs.YtejcekikbnlllaaGreat
open Go.RowKit Bu Rx
theorem lnR_inv{E:List I×Int}{i:Nat}(h:(lnR E i).2=0):E.2=0:=by
 unfold lnR at h;cases c:neB E.2
 ·exact neB_0 c
 ·rw[c]at h;exact h
theorem ggR_inv{p:List Bu.Op}{c al:I}(h:(ggR KkR p c al).2=0):(evalK KkR p [c,al] 0).2=0:=by
 unfold ggR ggE at h;cases e:neB (evalK KkR p [c,al] 0).2
 ·exact neB_0 e
 ·rw[e]at h;exact h
theorem val3_eq(G:Gm)(K:Kk)(f:Nat->F)(c:Int)(v u:V3):vlG G K ⟨3,f,c,v,u⟩=meP K G f v u:=rfl
theorem val4_eq(G:Gm)(K:Kk)(f:Nat->F)(c:Int)(v u:V3):vlG G K ⟨4,f,c,v,u⟩=meM K G f c.toNat v u:=rfl
theorem gm_gl:GmR.gl=glR KkR GlR:=by simp only[GmR]
theorem gm_dl:GmR.dl=fun c n=>lnR (fdK KkR c n) 0:=by simp only[GmR]
theorem gm_cd:GmR.cd=fun c m n=>lnR (fcK KkR c m n) 0:=by simp only[GmR]
theorem pF_rt(x:F):rt (pF x)=true:=dT (Int.le_refl _)
theorem val1_eq(G:Gm)(K:Kk)(f:Nat->F)(c:Int)(v u:V3):vlG G K ⟨1,f,c,v,u⟩=meL G f c.toNat:=rfl
theorem val2_eq(G:Gm)(K:Kk)(f:Nat->F)(c:Int)(v u:V3):vlG G K ⟨2,f,c,v,u⟩=meO K G f c.toNat v u:=rfl
theorem gm_lb:GmR.lb=fun r=>lnR (lbK KkR r) 0:=by simp only[GmR]
theorem den1_eq(G:Gm)(f:Nat->F)(c:Int)(v u:V3):dnG4 G ⟨1,f,c,v,u⟩=G.lb v.z:=rfl
theorem den2_eq(G:Gm)(f:Nat->F)(c:Int)(v u:V3):dnG4 G ⟨2,f,c,v,u⟩=G.lb v.z:=rfl
theorem den3_eq(G:Gm)(f:Nat->F)(c:Int)(v u:V3):dnG4 G ⟨3,f,c,v,u⟩=((G.gl v u (pF (f 13))).1.d,(G.gl v u (pF (f 13))).2):=rfl
theorem den4_eq(G:Gm)(f:Nat->F)(c:Int)(v u:V3):dnG4 G ⟨4,f,c,v,u⟩=((G.gl v u (pF (f 13))).1.d,(G.gl v u (pF (f 13))).2):=rfl
end Go.Proofs.YtejcekikbnlllaaGreat
namespace Bu
open Rx Go
theorem kadd_0{e:Int}{a b:I}(h:(KkR.add e a b).2=0):e=0:=(add_0 h).1
theorem ksub_0{e:Int}{a b:I}(h:(KkR.sub e a b).2=0):e=0:=(sub_0 h).1
theorem kmul_0{e:Int}{a b:I}(h:(KkR.mul e a b).2=0):e=0:=(mul_0 h).1
theorem ksqr_0{e:Int}{a:I}(h:(KkR.sqr e a).2=0):e=0:=(sqr_0 h).1
theorem knum_0{e:Int}{x:F}(h:(KkR.num e x).2=0):e=0:=(num_0 h).1
end Bu
namespace Go.Proofs.YtejcekikbnlllaaGreat
open Go.RowKit Bu Rx
theorem evE_0'{N:Nde}{v u:V3}{cs:List SV}:∀{j:Nat},evE N v u cs j=0->∀i,i<j->evF N v u cs i=0
 |0,_,i,hi=>by omega
 | j + 1, h, i, hi => by
   have e:evE N v u cs (j+1)=bif decide (evE N v u cs j=0)then evF N v u cs j else evE N v u cs j:=rfl
   rw[e]at h;by_cases hj:evE N v u cs j=0
   ·rw[dT hj,cT]at h;rcases Nat.lt_or_ge i j with h1|h1
    ·exact evE_0' hj i h1
    ·obtain rfl:i=j:=by omega
     exact h
   ·rw[dF hj,cF]at h;exact absurd h hj
structure RE (r:I×Int):Prop where
 er:Er r.2
 rt:rt r.1=true
theorem condr:∀{l:List Bu.Op}{v u:List I},(∀a∈v,rt a=true)->CondE l v->Chain l v u->∀a∈u,rt a=true
 | [], v, u, hv, _, hc => by have e:u=v:=hc;subst e;exact hv
 | o :: l, v, u, hv, hc, hh => by
   obtain⟨r,hr,hu⟩:=hh;have h1:=fact_rt hv hc.1 hr;exact condr (fun a ha=>by
    rcases List.mem_cons.1 ha with rfl|ha
    ·exact h1
    ·exact hv a ha) (hc.2 r hr h1) hu
theorem line_re{l:List Bu.Op}{v:List I}(hv:∀a∈v,rt a=true)(hc:CondE l v)(i:Nat):RE (lnR (evalK KkR l v 0) i):=by
 have he:=eval_er hv hc;unfold lnR;cases g:neB (evalK KkR l v 0).2
 ·exact⟨.inl rfl,gt_rt (condr hv hc (eval_chain (neB_0 g)).2) i⟩
 ·exact⟨he,(by decide:rt I.zero=true)⟩
theorem line_rt{l:List Bu.Op}{v:List I}(hv:∀a∈v,rt a=true)(hc:CondE l v)(h:(evalK KkR l v 0).2=0)(i:Nat):rt (gt (evalK KkR l v 0).1 i)=true:=gt_rt (condr hv hc (eval_chain h).2) i
theorem no_fl{v:List I}(s:List Bool)(h:s.all (fun b=> !b)=true):Flags s v:=fun i hi=>by
 exfalso
 rw[List.getD_eq_getElem?_getD]at hi;cases k:s[i]? with
 |none=>rw[k]at hi;cases hi
 | some b =>
   rw[k]at hi;have hb:b=true:=hi;subst hb;have:=List.all_eq_true.1 h _ (List.mem_of_getElem? k);cases this
theorem rts6{a b c d e f:I}(h1:rt a=true)(h2:rt b=true)(h3:rt c=true)(h4:rt d=true)(h5:rt e=true)(h6:rt f=true):∀x∈ [a,b,c,d,e,f],rt x=true:=by intro x hx;simp only[List.mem_cons,List.not_mem_nil,or_false]at hx;rcases hx with rfl|rfl|rfl|rfl|rfl|rfl<;>assumption
theorem rts5{a b c d e:I}(h1:rt a=true)(h2:rt b=true)(h3:rt c=true)(h4:rt d=true)(h5:rt e=true):∀x∈ [a,b,c,d,e],rt x=true:=by intro x hx;simp only[List.mem_cons,List.not_mem_nil,or_false]at hx;rcases hx with rfl|rfl|rfl|rfl|rfl<;>assumption
theorem rts3{a b c:I}(h1:rt a=true)(h2:rt b=true)(h3:rt c=true):∀x∈ [a,b,c],rt x=true:=by intro x hx;simp only[List.mem_cons,List.not_mem_nil,or_false]at hx;rcases hx with rfl|rfl|rfl<;>assumption
theorem rts2{a b:I}(h1:rt a=true)(h2:rt b=true):∀x∈ [a,b],rt x=true:=by intro x hx;simp only[List.mem_cons,List.not_mem_nil,or_false]at hx;rcases hx with rfl|rfl<;>assumption
theorem rts1{a:I}(h1:rt a=true):∀x∈ [a],rt x=true:=by intro x hx;rw[List.mem_singleton]at hx;subst hx;exact h1
structure Wd (v:V3):Prop where
 x:In1 v.x
 y:In1 v.y
 z:InB v.z bz1
theorem in1_rt{a:I}(h:In1 a):rt a=true:=dT h.rt
theorem inb_rt1{a b:I}(h:InB a b):rt a=true:=dT h.2.2
theorem Wd.six{v u:V3}(hv:Wd v)(hu:Wd u):∀x∈ [u.z,u.y,u.x,v.z,v.y,v.x],rt x=true:=rts6 (inb_rt1 hu.z) (in1_rt hu.y) (in1_rt hu.x) (inb_rt1 hv.z) (in1_rt hv.y) (in1_rt hv.x)
theorem Wd.dir{v:V3}(h:Wd v):ObsOk (dirO v):=
 ob_c (dT h.z.2.1) (ob_c (dT h.z.1) (ob_c (dT h.y.hi) (ob_c (dT h.y.lo) (ob_c (dT h.x.hi) (ob_c (dT h.x.lo) (ob_c (inb_rt1 h.z) (ob_c (in1_rt h.y) (ob_c (in1_rt h.x) ob_n))))))))
theorem f6{v:List I}:Flags [false,false,false,false,false,false] v:=no_fl _ rfl
theorem mi_c{v u:V3}(hv:Wd v)(hu:Wd u):CondE miH [u.z,u.y,u.x,v.z,v.y,v.x]:=chk_cond (s:=[false,false,false,false,false,false]) (by decide+kernel) f6 (hv.six hu)
theorem dt_c{v u:V3}(hv:Wd v)(hu:Wd u):CondE dtP [u.z,u.y,u.x,v.z,v.y,v.x]:=chk_cond (s:=[false,false,false,false,false,false]) (by decide+kernel) f6 (hv.six hu)
theorem lb_c{a:I}(h:rt a=true):CondE lbV [a]:=chk_cond (s:=[false]) (by decide+kernel) (no_fl _ rfl) (rts1 h)
theorem gd_c{a b:I}(h:rt a=true)(k:rt b=true):CondE ggD [a,b]:=chk_cond (s:=[false,false]) (by decide+kernel) (no_fl _ rfl) (rts2 h k)
theorem fc_c{a b c:I}(h:rt a=true)(k:rt b=true)(m:rt c=true):CondE frC [a,b,c]:=chk_cond (s:=[false,false,false]) (by decide+kernel) (no_fl _ rfl) (rts3 h k m)
theorem mv_c{a b c d e:I}(h1:rt a=true)(h2:rt b=true)(h3:rt c=true)(h4:rt d=true)(h5:rt e=true):CondE miV [a,b,c,d,e]:=chk_cond (s:=[false,false,false,false,false]) (by decide+kernel) (no_fl _ rfl) (rts5 h1 h2 h3 h4 h5)
theorem less_nn{c sq o s:I}(hc:InB c bz1)(hs:Up sq.hi ((bareI c).hi.q*(bareI c).hi.q))(ho:o=⟨one64,one64⟩)(h:Dn s.lo (o.lo.q-sq.hi.q)):0<=s.lo.q:=by
 have b:=bare_ends (a:=c) (inb_rt1 hc);have c0:=q_le.2 hc.1;have c1:=q_le.2 hc.2.1;have z:(bz1.lo:F).q=0:=by rw[show bz1.lo=F.zero from F.ext' (by decide+kernel)];exact q_zero
 have e1:(bz1.hi:F).q=1:=one_q;rw[z]at c0;rw[e1]at c1;have hb:(bareI c).hi.q*(bareI c).hi.q<=1:=by
  rcases b.2 with m|m
  ·have l:=m.lo;have u:=m.hi;have:=sq_bd (x:=(bareI c).hi.q) (m:=1) (by grind) (by grind);grind
  ·have l:=m.lo;have u:=m.hi;have:=sq_bd (x:=(bareI c).hi.q) (m:=1) (by grind) (by grind);grind
 have h1:=hs.bot one64 (by rw[one_q];exact hb);rw[one_q]at h1;subst ho;refine dn_nn h ?_;show 0<=one64.q-sq.hi.q;rw[one_q];grind
theorem sq_nn1{c sq:I}(h:Dn sq.lo ((bareI c).lo.q*(bareI c).lo.q)):0<=sq.lo.q:=dn_nn h (sq_nn _)
theorem fl_cons{b:Bool}{s:List Bool}{a:I}{v:List I}(h:b=true->0<=a.lo.q)(k:Flags s v):Flags (b::s) (a::v):=fun i hi=>by
 cases i with
 |zero=>exact h hi
 |succ i=>exact k i hi
theorem fl_nil{v:List I}:Flags [] v:=fun i hi=>by rw[List.getD_eq_getElem?_getD]at hi;simp at hi
def flO:List Bu.Op->List Bool->List Bool
 | [],s=>s
 |o::l,s=>flO l (nnS o s::s)
theorem chk_then{l2:List Bu.Op}:∀{l1:List Bu.Op}{s:List Bool}{v:List I},chk l1 s=true->Flags s v->(∀a∈v,rt a=true)->
  (∀rs:List I,rs.length=l1.length->Flags (flO l1 s) (rs++v)->(∀a∈rs++v,rt a=true)->CondE l2 (rs++v))->CondE (l1++l2) v
 | [],s,v,_,hf,hv,h=>h [] rfl hf hv
 | o :: l, s, v, hc, hf, hv, h => by
   obtain⟨h1,h2⟩:=both hc;have ok:=(chk_cond (l:=[o]) (s:=s) (by unfold chk;rw[h1];rfl) hf hv).1;refine⟨ok,fun r hr rr=> ?_⟩;refine chk_then h2 (fl_cons (fun hn=>fact_nn hv hf hr hn) hf) (fun a ha=>by
    rcases List.mem_cons.1 ha with rfl|ha
    ·exact rr
    ·exact hv a ha) fun rs hl hF hR=> ?_
   have e:rs++r::v=(rs++ [r])++v:=by rw[List.append_assoc];rfl
   have:=h (rs++ [r]) (by rw[List.length_append,hl];rfl);rw[<-e]at this;exact this hF hR
theorem cons_rt{a:I}{v:List I}(h:rt a=true)(k:∀x∈v,rt x=true):∀x∈a::v,rt x=true:=fun x hx=>by
 rcases List.mem_cons.1 hx with rfl|hx
 ·exact h
 ·exact k x hx
theorem gg1_c{c al:I}(hc:InB c bz1)(ha:rt al=true):CondE gg1 [c,al]:=by
 refine⟨trivial,fun a2 f1 r1=>⟨trivial,fun o1 f2 r2=>⟨trivial,fun sq f3 r3=>⟨trivial,fun o2 f4 r4=>⟨trivial,fun s1 f5 r5=> ?_⟩⟩⟩⟩⟩;have n5:0<=s1.lo.q:=less_nn hc f3.2 f4 f5.1;exact chk_cond (s:=[true,false,true,false,true]) (by decide+kernel) (fl_cons (fun _=>n5) (fl_cons (fun h=>by cases h) (fl_cons (fun _=>sq_nn1 f3.1) (fl_cons (fun h=>by cases h) (fl_cons (fun _=>sq_nn1 f1.1) fl_nil)))))
  (cons_rt r5 (cons_rt r4 (cons_rt r3 (cons_rt r2 (cons_rt r1 (rts2 (inb_rt1 hc) ha))))))
theorem len_s{n:Nat}{l:List I}(h:l.length=n+1):∃p k,l=p::k/\k.length=n:=by
 cases l with
 |nil=>cases h
 |cons p k=>exact⟨p,k,rfl,Nat.succ.inj h⟩
theorem len11{l:List I}(h:l.length=11):∃p1 p2 p3 p4 p5 p6 p7 p8 p9 p10 p11,l=[p1,p2,p3,p4,p5,p6,p7,p8,p9,p10,p11]:=by obtain⟨p1,l1,e1,h1⟩:=len_s h;obtain⟨p2,l2,e2,h2⟩:=len_s h1;obtain⟨p3,l3,e3,h3⟩:=len_s h2;obtain⟨p4,l4,e4,h4⟩:=len_s h3;obtain⟨p5,l5,e5,h5⟩:=len_s h4;obtain⟨p6,l6,e6,h6⟩:=len_s h5;obtain⟨p7,l7,e7,h7⟩:=len_s h6;obtain⟨p8,l8,e8,h8⟩:=len_s h7;obtain⟨p9,l9,e9,h9⟩:=len_s h8;obtain⟨p10,l10,e10,h10⟩:=len_s h9;obtain⟨p11,l11,e11,h11⟩:=len_s h10;have e:=List.eq_nil_of_length_eq_zero h11;refine⟨p1,p2,p3,p4,p5,p6,p7,p8,p9,p10,p11,?_⟩;rw[e1,e2,e3,e4,e5,e6,e7,e8,e9,e10,e11,e]
theorem gg2_c{c d al:I}(hc:InB c bz1)(hd:InB d bz1)(ha:rt al=true):CondE gg2 [d,c,al]:=by
 refine⟨trivial,fun a2 f1 r1=>⟨trivial,fun o1 f2 r2=>⟨trivial,fun sq f3 r3=>⟨trivial,fun o2 f4 r4=>⟨trivial,fun s1 f5 r5=> ?_⟩⟩⟩⟩⟩;have n5:0<=s1.lo.q:=less_nn hc f3.2 f4 f5.1;have hh:gg2.drop 5=(gg2.drop 5).take 11++(gg2.drop 5).drop 11:=(List.take_append_drop 11 (gg2.drop 5)).symm
 suffices k:CondE ((gg2.drop 5).take 11++(gg2.drop 5).drop 11) [s1,o2,sq,o1,a2,d,c,al] by rw[<-hh]at k;exact k
 refine chk_then (s:=[true,false,true,false,true]) (by kernel_rfl) (fl_cons (fun _=>n5) (fl_cons (fun h=>by cases h) (fl_cons (fun _=>sq_nn1 f3.1) (fl_cons (fun h=>by cases h) (fl_cons (fun _=>sq_nn1 f1.1) fl_nil)))))
  (cons_rt r5 (cons_rt r4 (cons_rt r3 (cons_rt r2 (cons_rt r1 (rts3 (inb_rt1 hd) (inb_rt1 hc) ha)))))) fun rs hl hF hR=> ?_
 have hl':rs.length=11:=hl.trans (by kernel_rfl);obtain⟨p1,p2,p3,p4,p5,p6,p7,p8,p9,p10,p11,rfl⟩:=len11 hl';show CondE (gg2.drop 16) [p1,p2,p3,p4,p5,p6,p7,p8,p9,p10,p11,s1,o2,sq,o1,a2,d,c,al];refine⟨trivial,fun sqd g1 q1=>⟨trivial,fun o2d g2 q2=>⟨trivial,fun s1d g3 q3=> ?_⟩⟩⟩;have n3:0<=s1d.lo.q:=less_nn hd g1.2 g2 g3.1;exact chk_cond (s:=true::false::true::flO ((gg2.drop 5).take 11) [true,false,true,false,true]) (by kernel_rfl) (fl_cons (fun _=>n3) (fl_cons (fun h=>by cases h) (fl_cons (fun _=>sq_nn1 g1.1) hF)))
  (cons_rt q3 (cons_rt q2 (cons_rt q1 hR)))
end Go.Proofs.YtejcekikbnlllaaGreat
namespace Bu
open Rx Go
theorem ask_zz{e:Int}{g:Bool}{r:I×Int}(h:(askI e g r).2≠0):(askI e g r).1=I.zero:=by
 unfold askI at h ⊢;cases h1:!(e==0)
 ·rw[h1,cF]at h;have he:e=0:=by simpa using h1
  cases g
  ·rfl
  ·rw[cT]at h;cases h2:!(r.2==0)
   ·rw[h2,cF]at h;exact absurd he h
   ·rfl
 ·rfl
def uQ1(x:F):I×Int:=cSqr dMul 0 (pt x)
def uQ2(x y:F):I×Int:=cSqr dMul (uQ1 x).2 (pt y)
def uS1(x y:F):I×Int:=cAdd dAdd (uQ2 x y).2 (uQ1 x).1 (uQ2 x y).1
def uQ3(x y z:F):I×Int:=cSqr dMul (uS1 x y).2 (pt z)
def uS2(x y z:F):I×Int:=cAdd dAdd (uQ3 x y z).2 (uS1 x y).1 (uQ3 x y z).1
def uN(x y z:F):I×Int:=cSqrt qSqrt (uS2 x y z).2 (uS2 x y z).1
def uD1(x y z:F):I×Int:=cDiv pDiv (uN x y z).2 (pt x) (uN x y z).1
def uD2(x y z:F):I×Int:=cDiv pDiv (uD1 x y z).2 (pt y) (uN x y z).1
def uD3(x y z:F):I×Int:=cDiv pDiv (uD2 x y z).2 (pt z) (uN x y z).1
theorem un_raw(x y z:F):unV KkR x y z=⟨withI (uD1 x y z).1,withI (uD2 x y z).1,withI (uD3 x y z).1⟩:=by
 have hE:unE KkR x y z=([withI (uD3 x y z).1,(uD3 x y z).1,withI (uD2 x y z).1,(uD2 x y z).1,withI (uD1 x y z).1,(uD1 x y z).1,(uN x y z).1,(uS2 x y z).1,(uQ3 x y z).1,(uS1 x y).1,(uQ2 x y).1,(uQ1 x).1,pt z,pt y,pt x],(uD3 x y z).2):=by
  unfold unE unP;refine(eval_cons (r:=pt x) (e':=0) ?_).trans ?_
  ·exact rfl
  refine(eval_cons (r:=pt y) (e':=0) ?_).trans ?_
  ·exact rfl
  refine(eval_cons (r:=pt z) (e':=0) ?_).trans ?_
  ·exact rfl
  refine(eval_cons (r:=(uQ1 x).1) (e':=(uQ1 x).2) ?_).trans ?_
  ·exact rfl
  refine(eval_cons (r:=(uQ2 x y).1) (e':=(uQ2 x y).2) ?_).trans ?_
  ·exact rfl
  refine(eval_cons (r:=(uS1 x y).1) (e':=(uS1 x y).2) ?_).trans ?_
  ·exact rfl
  refine(eval_cons (r:=(uQ3 x y z).1) (e':=(uQ3 x y z).2) ?_).trans ?_
  ·exact rfl
  refine(eval_cons (r:=(uS2 x y z).1) (e':=(uS2 x y z).2) ?_).trans ?_
  ·exact rfl
  refine(eval_cons (r:=(uN x y z).1) (e':=(uN x y z).2) ?_).trans ?_
  ·exact rfl
  refine(eval_cons (r:=(uD1 x y z).1) (e':=(uD1 x y z).2) ?_).trans ?_
  ·exact rfl
  refine(eval_cons (r:=withI (uD1 x y z).1) (e':=(uD1 x y z).2) ?_).trans ?_
  ·exact rfl
  refine(eval_cons (r:=(uD2 x y z).1) (e':=(uD2 x y z).2) ?_).trans ?_
  ·exact rfl
  refine(eval_cons (r:=withI (uD2 x y z).1) (e':=(uD2 x y z).2) ?_).trans ?_
  ·exact rfl
  refine(eval_cons (r:=(uD3 x y z).1) (e':=(uD3 x y z).2) ?_).trans ?_
  ·exact rfl
  refine(eval_cons (r:=withI (uD3 x y z).1) (e':=(uD3 x y z).2) ?_).trans ?_
  ·exact rfl
  rfl
 unfold unV;rw[hE];rfl
theorem with_lo{a:I}(h:z64.k<=a.lo.k):z64.k<=(withI a).lo.k:=by
 unfold withI;cases decide ((mnF a.hi one64).k<(mxF a.lo mone64).k)
 ·have:=mxF_k a.lo mone64;show z64.k<=(mxF a.lo mone64).k;omega
 ·exact(by decide+kernel:z64.k<=I.zero.lo.k)
theorem z64_q:z64.q=0:=by rw[show z64=F.zero from F.ext' (by decide+kernel)];exact q_zero
theorem un_in{x y z:F}(hz:z64.k<z.k):In1 (unV KkR x y z).x/\In1 (unV KkR x y z).y/\InB (unV KkR x y z).z bz1:=by
 rw[un_raw];have h:z64.k<=(uD3 x y z).1.lo.k:=by
  by_cases h:(uD3 x y z).2=0
  ·obtain⟨h1,_,hr,hn,_,hA⟩:=div_0 (h:(cDiv pDiv (uD2 x y z).2 (pt z) (uN x y z).1).2=0);obtain⟨h2,_⟩:=div_0 (h1:(cDiv pDiv (uD1 x y z).2 (pt y) (uN x y z).1).2=0);obtain⟨h3,_⟩:=div_0 (h2:(cDiv pDiv (uN x y z).2 (pt x) (uN x y z).1).2=0);obtain⟨_,_,_,_,d,u⟩:=sqrt_0 (h3:(cSqrt qSqrt (uS2 x y z).2 (uS2 x y z).1).2=0);have d0:0<=(uN x y z).1.lo.q:=d.nn;have np:0<(uN x y z).1.lo.q:=by
    rcases no_zero hr hn with g|g
    ·exact g
    ·have:=rt_le hr;grind
   have nh:=rt_le hr;have zq:0<z.q:=by rw[<-z64_q];exact q_lt.2 hz
   have pos:∀{n:Rat},0<n->0<=z.q/n:=by intro n hn;have e:z.q/n*n=z.q:=Rat.div_mul_cancel (by grind);generalize z.q/n=m at*;apply Rat.not_lt.1;intro g;have:=Rat.mul_pos (show 0 < -m by grind) hn;grind
   have a:=pos np;have b:=pos (show 0<(uN x y z).1.hi.q by grind);have a':z64.q<=z.q/(uN x y z).1.lo.q:=by rw[z64_q];exact a
   have b':z64.q<=z.q/(uN x y z).1.hi.q:=by rw[z64_q];exact b
   exact q_le.1 (hA.top (c:=z64) a' b' a' b')
  ·have e:(uD3 x y z).1=I.zero:=by have h':(cDiv pDiv (uD2 x y z).2 (pt z) (uN x y z).1).2≠0:=h;show(cDiv pDiv (uD2 x y z).2 (pt z) (uN x y z).1).1=I.zero;unfold cDiv at h' ⊢;exact ask_zz h'
   rw[e];exact(by decide+kernel:z64.k<=I.zero.lo.k)
 have w:=withI_in (uD3 x y z).1;exact⟨withI_in _,withI_in _,with_lo h,w.hi,w.rt⟩
end Bu
namespace Go.Proofs.YtejcekikbnlllaaGreat
open Go.RowKit Bu Rx
theorem zero_rt:rt I.zero=true:=by decide
theorem num_re{e:Int}(he:Er e)(x:F):RE (KkR.num e x):=by
 by_cases h:e=0
 ·subst h;exact⟨.inl rfl,(dT (Int.le_refl _):rt (⟨x,x⟩:I)=true)⟩
 ·have e1:KkR.num e x=(I.zero,e):=ask_kept h _ _;rw[e1];exact⟨he,zero_rt⟩
theorem add_re{e:Int}{a b:I}(he:Er e)(ha:rt a=true)(hb:rt b=true):RE (KkR.add e a b):=by
 refine⟨ask_er he (by rw[ha,hb];rfl) (ends_er (dAdd_RD _ _).er (dAdd_RU _ _).er),?_⟩;by_cases h:(cAdd dAdd e a b).2=0
 ·obtain⟨_,_,_,_,d,u⟩:=add_0 h;have l1:=rt_le ha;have l2:=rt_le hb;exact rt_q (a:=(cAdd dAdd e a b).1) (by have:=d.le;have:=u.ge;grind)
 ·show rt (cAdd dAdd e a b).1=true;unfold cAdd at h ⊢;rw[ask_zz h];exact zero_rt
theorem sub_re{e:Int}{a b:I}(he:Er e)(ha:rt a=true)(hb:rt b=true):RE (KkR.sub e a b):=by
 refine⟨ask_er he (by rw[ha,hb];rfl) (ends_er (dSub_RD _ _).er (dSub_RU _ _).er),?_⟩;by_cases h:(cSub dSub e a b).2=0
 ·obtain⟨_,_,_,_,d,u⟩:=sub_0 h;have l1:=rt_le ha;have l2:=rt_le hb;exact rt_q (a:=(cSub dSub e a b).1) (by have:=d.le;have:=u.ge;grind)
 ·show rt (cSub dSub e a b).1=true;unfold cSub at h ⊢;rw[ask_zz h];exact zero_rt
theorem mul_re{e:Int}{a b:I}(he:Er e)(ha:rt a=true)(hb:rt b=true):RE (KkR.mul e a b):=by
 refine⟨ask_er he (by rw[ha,hb];rfl) (all_er (mul_four a b)),?_⟩;by_cases h:(cMul dMul e a b).2=0
 ·obtain⟨_,_,_,_,A⟩:=mul_0 h;exact AllR.rt A
 ·show rt (cMul dMul e a b).1=true;unfold cMul at h ⊢;rw[ask_zz h];exact zero_rt
theorem sqr_re{e:Int}{a:I}(he:Er e)(ha:rt a=true):RE (KkR.sqr e a):=by
 refine⟨ask_er he ha (ends_er (dMul_RD _ _).er (dMul_RU _ _).er),?_⟩;by_cases h:(cSqr dMul e a).2=0
 ·obtain⟨_,_,_,d,u⟩:=sqr_0 h;obtain⟨b1,b2,_⟩:=bare_gen ha;have m:=mN (show 0<=(bareI a).hi.q-(bareI a).lo.q by grind) (show 0<=(bareI a).hi.q+(bareI a).lo.q by grind);exact rt_q (a:=(cSqr dMul e a).1) (by have:=d.le;have:=u.ge;grind)
 ·show rt (cSqr dMul e a).1=true;unfold cSqr at h ⊢;rw[ask_zz h];exact zero_rt
theorem mixK_re{e:Int}{w:F}{a b:I}(he:Er e)(ha:rt a=true)(hb:rt b=true):RE (mixK KkR e w a b):=by unfold mixK;have q1:=num_re he one_;have q2:=num_re q1.er w;have s:=sub_re q2.er q1.rt q2.rt;have m1:=mul_re s.er s.rt ha;have q3:=num_re m1.er w;have m2:=mul_re q3.er q3.rt hb;exact add_re m2.er m1.rt m2.rt
structure Rc (c:Ch):Prop where
 p:rt c.p=true
 m:rt c.m=true
structure REc (r:Ch×Int):Prop where
 er:Er r.2
 rt:Rc r.1
theorem mixC_re{w:F}{a b:Ch}(ha:Rc a)(hb:Rc b):REc (mixC KkR w a b):=by have p:=mixK_re (w:=w) (.inl rfl:Er 0) ha.p hb.p;have m:=mixK_re (w:=w) p.er ha.m hb.m;exact⟨m.er,p.rt,m.rt⟩
theorem overC_re{i o:I}{w:F}{a:Ch}(hi:rt i=true)(ho:rt o=true)(ha:Rc a):REc (overC KkR i o w a):=by unfold overC;have q1:=num_re (.inl rfl:Er 0) one_;have qw:=num_re q1.er w;have s:=sub_re qw.er q1.rt ho;have h:=sub_re s.er q1.rt hi;have x:=mul_re h.er h.rt s.rt;have y:=mul_re x.er x.rt qw.rt;have f:=mul_re y.er y.rt ha.p;have q:=sqr_re f.er s.rt;have t:=mul_re q.er q.rt qw.rt;have z:=mul_re t.er t.rt ha.m;have r:=add_re z.er ho z.rt;exact⟨r.er,f.rt,r.rt⟩
theorem hull_rtB{a b:I}(ha:rt a=true)(hb:rt b=true):rt (hullI a b)=true:=by refine rt_q ?_;have l1:=rt_le ha;have h1:=(mnF_q a.lo b.lo).1;have h2:=(mxF_q a.hi b.hi).1;show(mnF a.lo b.lo).q<=(mxF a.hi b.hi).q;grind
theorem hdC_er{r s i o d:I}(hr:rt r=true)(hs:rt s=true)(hi:rt i=true)(ho:rt o=true)(hd:rt d=true)(h1:z64.k<(orQ KkR i o d).hi.k)(h2:(orQ KkR i o d).lo.k<z64.k):Er (hdC r s i o d).2:=by
 have p:=mul_re (.inl rfl:Er 0) hi ho;have q:=sub_re p.er hd p.rt;have e:hdC r s i o d=evalK KkR ((orC.take 8).drop 2) [(KkR.sub (KkR.mul 0 i o).2 d (KkR.mul 0 i o).1).1,(KkR.mul 0 i o).1,d,o,i,s,r] (KkR.sub (KkR.mul 0 i o).2 d (KkR.mul 0 i o).1).2:=by
  unfold hdC;refine(eval_cons (r:=(KkR.mul 0 i o).1) (e':=(KkR.mul 0 i o).2) ?_).trans ?_
  ·exact rfl
  refine(eval_cons (r:=(KkR.sub (KkR.mul 0 i o).2 d (KkR.mul 0 i o).1).1) (e':=(KkR.sub (KkR.mul 0 i o).2 d (KkR.mul 0 i o).1).2) ?_).trans ?_
  ·exact rfl
  rfl
 rw[e];have h1':z64.k<(KkR.sub (KkR.mul 0 i o).2 d (KkR.mul 0 i o).1).1.hi.k:=h1;have h2':(KkR.sub (KkR.mul 0 i o).2 d (KkR.mul 0 i o).1).1.lo.k<z64.k:=h2;have prt:=p.rt;clear e h1 h2 p;generalize KkR.sub (KkR.mul 0 i o).2 d (KkR.mul 0 i o).1=Q at*;generalize (KkR.mul 0 i o).1=P at*;by_cases g:Q.2=0
 ·rw[g];refine eval_er (cons_rt q.rt (cons_rt prt (rts5 hd ho hi hs hr))) ⟨?_,fun hp f1 r1=>⟨trivial,fun mx f2 r2=>⟨trivial,fun up f3 r3=>⟨?_,fun hn f4 r4=>⟨?_,fun hu f5 r5=>⟨trivial,fun _ _ _=>trivial⟩⟩⟩⟩⟩⟩
  ·exact dT (Int.le_of_lt h1')
  ·exact dT (Int.le_of_lt h2')
  ·exact hull_rtB r4 r3
 ·rw[eval_kept g];exact q.er
theorem orA_c:chk (orA.take 3) [false,false,false,false,false]=true:=by decide+kernel
theorem orB_c:chk (orB.take 5) [false,false,false,false,false]=true:=by decide+kernel
theorem orR_re{r s i o d:I}(hr:Uz1 r)(hs:Uz1 s)(hi:rt i=true)(ho:rt o=true)(hd:rt d=true):RE (orR KkR r s i o d):=by
 have v5:=rts5 hd ho hi hs.rt hr.rt;have he:Er (hdS r s i o d).2:=by
  unfold hdS;cases c1:decide ((orQ KkR i o d).hi.k<=z64.k)
  ·rw[cF];cases c2:decide (z64.k<=(orQ KkR i o d).lo.k)
   ·have h1:=of_decide_eq_false c1;have h2:=of_decide_eq_false c2;exact hdC_er hr.rt hs.rt hi ho hd (by omega) (by omega)
   ·exact eval_er' orB_c (no_fl _ rfl) v5
  ·exact eval_er' orA_c (no_fl _ rfl) v5
 by_cases h:(orR KkR r s i o d).2=0
 ·obtain⟨sl,h1,h2⟩:=or_to hr hs h;rw[h2];exact⟨.inl rfl,(orV_in hr hs (sl_b h1)).rt⟩
 ·rw[or_val hr hs]at h ⊢;cases c:neB (hdS r s i o d).2
  ·rw[c]at h;exact absurd rfl h
  ·exact⟨he,zero_rt⟩
theorem glM_re{g:Gl4×Int}{r:I×Int}(hg:Er g.2)(hv:g.2=0->rt g.1.v=true)(hr:g.2=0->RE r):RE (glM KkR g r):=by
 unfold glM;cases c1:neB g.2
 ·have g0:=neB_0 c1;have hr:=hr g0;rw[cF];cases c2:neB r.2
  ·rw[cF];have m:=mul_re (.inl rfl:Er 0) (hv g0) hr.rt;cases c3:neB (KkR.mul 0 g.1.v r.1).2
   ·exact⟨.inl rfl,m.rt⟩
   ·exact⟨m.er,zero_rt⟩
  ·exact⟨hr.er,zero_rt⟩
 ·exact⟨hg,zero_rt⟩
theorem bz_hf{v u:V3}(hv:Wd v)(hu:Wd u)(h:(Bu.miK KkR v u).2=0):InB (gt (Bu.miK KkR v u).1 3) bz1:=by obtain⟨_,b⟩:=hl_in h;have b3:rt (gt (Bu.miK KkR v u).1 3)=true:=b _ (List.mem_cons_of_mem _ (List.mem_cons_of_mem _ (List.mem_cons_self ..)));have b2:=oTz (b _ (List.mem_cons_of_mem _ (List.mem_cons_self ..)));have b1:=oTz (b _ (List.mem_cons_self ..));exact⟨b2,b1,oTz b3⟩
theorem ggR_re{p:List Bu.Op}{c al:I}(hv:∀x∈ [c,al],rt x=true)(hc:CondE p [c,al]):RE (ggR KkR p c al):=line_re hv hc 0
structure GlP (v u:V3) (al:I):Prop where
 er:Er (glR KkR GlR v u al).2
 vv:(glR KkR GlR v u al).2=0->rt (glR KkR GlR v u al).1.v=true
 dd:(glR KkR GlR v u al).2=0->rt (glR KkR GlR v u al).1.d=true
 hh:(glR KkR GlR v u al).2=0->InB (glR KkR GlR v u al).1.hf bz1
theorem gl_re{v u:V3}{al:I}(hv:Wd v)(hu:Wd u)(ha:rt al=true):GlP v u al:=by
 have H:Er (Bu.miK KkR v u).2:=eval_er (hv.six hu) (mi_c hv hu);have L:=line_re (hv.six hu) (mi_c hv hu) 0;have D:RE (ggR KkR ggD (glH GlR v u).1 al):=ggR_re (rts2 L.rt ha) (gd_c L.rt ha);have G:RE (lnR (g2K KkR v.z u.z al) 0):=line_re (rts3 (inb_rt1 hu.z) (inb_rt1 hv.z) ha) (gg2_c hv.z hu.z ha) 0;have O:RE (ggR KkR gg1 u.z al):=ggR_re (rts2 (inb_rt1 hu.z) ha) (gg1_c hu.z ha);have hv5:∀x∈ [(GlR.o u.z al).1,(GlR.b v.z u.z al).1,(GlR.d (glH GlR v u).1 al).1,u.z,v.z],rt x=true:=rts5 O.rt G.rt D.rt (inb_rt1 hu.z) (inb_rt1 hv.z);have c5:=mv_c O.rt G.rt D.rt (inb_rt1 hu.z) (inb_rt1 hv.z);have M:Er (glE KkR GlR v u al).2:=eval_er hv5 c5;have he:Er (glErr KkR GlR v u al):=by
  unfold glErr;cases neB (GlR.H v u).2
  ·rw[cF];cases neB (GlR.d (glH GlR v u).1 al).2
   ·rw[cF];cases neB (GlR.b v.z u.z al).2
    ·rw[cF];cases neB (GlR.o u.z al).2
     ·exact M
     ·exact O.er
    ·exact G.er
   ·exact D.er
  ·exact H
 have hz:glErr KkR GlR v u al=0->(Bu.miK KkR v u).2=0/\(glE KkR GlR v u al).2=0:=by
  intro h;unfold glErr at h;cases c1:neB (GlR.H v u).2
  ·rw[c1,cF]at h;cases c2:neB (GlR.d (glH GlR v u).1 al).2
   ·rw[c2,cF]at h;cases c3:neB (GlR.b v.z u.z al).2
    ·rw[c3,cF]at h;cases c4:neB (GlR.o u.z al).2
     ·rw[c4,cF]at h;exact⟨neB_0 c1,h⟩
     ·rw[c4,cT]at h;rw[h]at c4;cases c4
    ·rw[c3,cT]at h;rw[h]at c3;cases c3
   ·rw[c2,cT]at h;rw[h]at c2;cases c2
  ·rw[c1,cT]at h;rw[h]at c1;cases c1
 cases c:neB (glErr KkR GlR v u al)
 ·obtain⟨z1,z2⟩:=hz (neB_0 c);have R:=fun i=>line_rt hv5 c5 z2 i;have e1:glR KkR GlR v u al=(glV KkR GlR v u al,0):=by unfold glR;rw[c];rfl
  refine⟨by rw[e1];exact .inl rfl,fun _=>by rw[e1];exact R 3,fun _=>by rw[e1];exact R 0,fun _=> ?_⟩;rw[e1];show InB (lnR (Bu.miK KkR v u) 3).1 bz1;rw[lnR_0 z1];exact bz_hf hv hu z1
 ·have e1:glR KkR GlR v u al=(Gl4.zero,glErr KkR GlR v u al):=by unfold glR;rw[c];rfl
  have hn:glErr KkR GlR v u al≠0:=fun h=>by rw[h]at c;cases c
  exact⟨by rw[e1];exact he,fun h=>by rw[e1]at h;exact absurd h hn,fun h=>by rw[e1]at h;exact absurd h hn,fun h=>by rw[e1]at h;exact absurd h hn⟩
theorem val_re{l:Lf}(hl:LfO l)(hv:Wd l.v)(hu:Wd l.u):RE (vlG GmR KkR l):=by
 obtain⟨k,f,c,v,u⟩:=l;have r:=hl.r;have n:=hl.n;simp only at r n hv hu;rcases rt_kind r with e|e|e|e<;>subst e
 ·rw[val1_eq];unfold meL;rw[gm_lb];exact line_re (rts1 (pF_rt _)) (lb_c (pF_rt _)) 0
 ·rw[val2_eq];obtain⟨a,b⟩:=rt2_in r n;by_cases h:(dtK KkR v u).2=0
  ·rw[meO_eq h];exact orR_re (uz_of a) (uz_of b) (inb_rt1 hv.z) (inb_rt1 hu.z) (line_rt (hv.six hu) (dt_c hv hu) h 0)
  ·have he:Er (dtK KkR v u).2:=eval_er (hv.six hu) (dt_c hv hu);have e1:meO KkR GmR f c.toNat v u=(I.zero,(dtK KkR v u).2):=by unfold meO;rw[show neB (dtK KkR v u).2=true by unfold neB;simpa using h];rfl
   rw[e1];exact⟨he,zero_rt⟩
 ·rw[val3_eq];obtain⟨a,b⟩:=rt3_in r;have G:=gl_re hv hu (pF_rt (f 13));unfold meP;rw[gm_gl,gm_dl];refine glM_re G.er G.vv fun g0=> ?_;obtain⟨x,hx,ux⟩:=fd_all (G.hh g0) (bn_of b);have k:RE (lnR (fdK KkR (glR KkR GlR v u (pF (f 13))).1.hf (pF (f 14))) 0):=by rw[hx];exact⟨.inl rfl,ux.rt⟩
  exact k
 ·rw[val4_eq];have G:=gl_re hv hu (pF_rt (f 13));unfold meM;rw[gm_gl,gm_cd];refine glM_re G.er G.vv fun g0=> ?_;have hh:=inb_rt1 (G.hh g0);exact line_re (rts3 hh (pF_rt _) (pF_rt _)) (fc_c hh (pF_rt _) (pF_rt _)) 0
theorem den_re{l:Lf}(hl:LfO l)(hv:Wd l.v)(hu:Wd l.u):RE (dnG4 GmR l):=by
 obtain⟨k,f,c,v,u⟩:=l;have r:=hl.r;simp only at r hv hu;have G:=gl_re hv hu (pF_rt (f 13));have gd:RE ((glR KkR GlR v u (pF (f 13))).1.d,(glR KkR GlR v u (pF (f 13))).2):=by
  refine⟨G.er,?_⟩;by_cases g0:(glR KkR GlR v u (pF (f 13))).2=0
  ·exact G.dd g0
  ·show rt (glR KkR GlR v u (pF (f 13))).1.d=true;unfold glR at g0 ⊢;cases c:neB (glErr KkR GlR v u (pF (f 13)))
   ·rw[c]at g0;exact absurd rfl g0
   ·exact(by decide:rt Gl4.zero.d=true)
 rcases rt_kind r with e|e|e|e<;>subst e
 ·rw[den1_eq,gm_lb];exact line_re (rts1 (inb_rt1 hv.z)) (lb_c (inb_rt1 hv.z)) 0
 ·rw[den2_eq,gm_lb];exact line_re (rts1 (inb_rt1 hv.z)) (lb_c (inb_rt1 hv.z)) 0
 ·rw[den3_eq,gm_gl];exact gd
 ·rw[den4_eq,gm_gl];exact gd
end Go.Proofs.YtejcekikbnlllaaGreat
namespace Bu
open Rx Go
def rl:Rat:=4*ulp
theorem rl_v:rl*2251799813685248=1:=by unfold rl ulp;decide+kernel
end Bu
