/- The reckoner: operations on memory. The reckoner: calls. The reckoner: one operation, and operations one after another. -/
import Derived.Tactics
import Derived.Laws.MakeOwn
import Derived.Test.YtejcekikbnlllaaGreatU02
set_option linter.all false
namespace Rx
open Go
mutual
def idsLt(k:Nat):SV->Bool
 | .p n _=>Nat.blt n k
 | .sp n _=>Nat.blt n k
 | .sl n _ _ _=>Nat.blt n k
 | .ssl n _ _ _=>Nat.blt n k
 | .osl _ n _=>Nat.blt n k
 | .fn _ first cap=>idsLts k first&&idsLts k cap
 | .agg l=>idsLts k l
 | .tup l=>idsLts k l
 | .b _=>true
 | .i _ _=>true
 | .si _ _=>true
 | .f _=>true
 | .fl _=>true
 | .np=>true
 | .o _=>true
def idsLts(k:Nat):List SV->Bool
 | []=>true
 |x::l=>idsLt k x&&idsLts k l
end
mutual
theorem plain_ids:∀{x:SV}{v:Value},plain x=some v->idsLt 0 x=true
 | .b _,_,_=>rfl
 | .i _ _,_,_=>rfl
 | .si _ _,_,_=>rfl
 | .f _,_,_=>rfl
 | .fl _,_,_=>rfl
 | .np,_,_=>rfl
 | .o _,_,_=>rfl
 | .p _ _,_,h=>by simp[plain]at h
 | .sp _ _,_,h=>by simp[plain]at h
 | .sl _ _ _ _,_,h=>by simp[plain]at h
 | .ssl _ _ _ _,_,h=>by simp[plain]at h
 | .osl _ _ _,_,h=>by simp[plain]at h
 | .fn _ _ _,_,h=>by simp[plain]at h
 | .agg l, v, h => by simp only[plain,mIz]at h;obtain⟨vs,h1,_⟩:=h;simp only[idsLt];exact plains_ids h1
 | .tup l, v, h => by simp only[plain,mIz]at h;obtain⟨vs,h1,_⟩:=h;simp only[idsLt];exact plains_ids h1
theorem plains_ids:∀{l:List SV}{vs:List Value},plains l=some vs->idsLts 0 l=true
 | [],_,_=>rfl
 | x :: l, vs, h => by simp only[plains,Option.bind_eq_some_iff,mIz]at h;obtain⟨v,h1,us,h2,_⟩:=h;simp only[idsLts,aTz];exact⟨plain_ids h1,plains_ids h2⟩
end
mutual
theorem idsLt_mono{j k:Nat}(h:j<=k):∀{x:SV},idsLt j x=true->idsLt k x=true
 | .b _,_=>rfl
 | .i _ _,_=>rfl
 | .si _ _,_=>rfl
 | .f _,_=>rfl
 | .fl _,_=>rfl
 | .np,_=>rfl
 | .o _,_=>rfl
 | .p n _,e=>Nat.blt_eq.mpr (Nat.lt_of_lt_of_le (Nat.blt_eq.mp e) h)
 | .sp n _,e=>Nat.blt_eq.mpr (Nat.lt_of_lt_of_le (Nat.blt_eq.mp e) h)
 | .sl n _ _ _,e=>Nat.blt_eq.mpr (Nat.lt_of_lt_of_le (Nat.blt_eq.mp e) h)
 | .ssl n _ _ _,e=>Nat.blt_eq.mpr (Nat.lt_of_lt_of_le (Nat.blt_eq.mp e) h)
 | .osl _ n _,e=>Nat.blt_eq.mpr (Nat.lt_of_lt_of_le (Nat.blt_eq.mp e) h)
 | .fn _ a b, e => by simp only[idsLt,aTz]at e ⊢;exact⟨idsLts_mono h e.1,idsLts_mono h e.2⟩
 | .agg l,e=>by simp only[idsLt]at e ⊢;exact idsLts_mono h e
 | .tup l,e=>by simp only[idsLt]at e ⊢;exact idsLts_mono h e
theorem idsLts_mono{j k:Nat}(h:j<=k):∀{l:List SV},idsLts j l=true->idsLts k l=true
 | [],_=>rfl
 | x :: l, e => by simp only[idsLts,aTz]at e ⊢;exact⟨idsLt_mono h e.1,idsLts_mono h e.2⟩
end
mutual
theorem den_nums{m m':Nms}:∀{x:SV},idsLt 0 x=true->den m x=den m' x
 | .b _,_=>by simp[den]
 | .i _ _,_=>by simp[den]
 | .si _ _,_=>by simp[den]
 | .f _,_=>by simp[den]
 | .fl _,_=>by simp[den]
 | .np,_=>by simp[den]
 | .o _,_=>by simp[den]
 | .p n _,h=>absurd (Nat.blt_eq.mp h) (Nat.not_lt_zero n)
 | .sp n _,h=>absurd (Nat.blt_eq.mp h) (Nat.not_lt_zero n)
 | .sl n _ _ _,h=>absurd (Nat.blt_eq.mp h) (Nat.not_lt_zero n)
 | .ssl n _ _ _,h=>absurd (Nat.blt_eq.mp h) (Nat.not_lt_zero n)
 | .osl _ n _,h=>absurd (Nat.blt_eq.mp h) (Nat.not_lt_zero n)
 | .fn f a b, h => by simp only[idsLt,aTz]at h;simp only[den];rw[dens_nums (m':=m') h.1,dens_nums (m':=m') h.2]
 | .agg l, h => by simp only[idsLt]at h;simp only[den];rw[dens_nums (m':=m') h]
 | .tup l, h => by simp only[idsLt]at h;simp only[den];rw[dens_nums (m':=m') h]
theorem dens_nums{m m':Nms}:∀{l:List SV},idsLts 0 l=true->dens m l=dens m' l
 | [],_=>by simp[dens]
 | x :: l, h => by simp only[idsLts,aTz]at h;simp only[dens];rw[den_nums (m':=m') h.1,dens_nums (m':=m') h.2]
end
theorem idsLts_app{k:Nat}:∀{a b:List SV},idsLts k a=true->idsLts k b=true->idsLts k (a++b)=true
 | [],b,_,h=>h
 | x :: a, b, h, h' => by simp only[idsLts,aTz,List.cons_append]at h ⊢;exact⟨h.1,idsLts_app h.2 h'⟩
theorem idsLts_mem{k:Nat}:∀{l:List SV},idsLts k l=true↔∀x∈l,idsLt k x=true
 | []=>by simp[idsLts]
 | x :: l => by simp only[idsLts,aTz,List.mem_cons,forall_eq_or_imp];rw[idsLts_mem (l:=l)]
theorem idsLts_part{k a n:Nat}{l:List SV}(h:idsLts k l=true):idsLts k ((l.drop a).take n)=true:=
 idsLts_mem.2 fun x hx=>idsLts_mem.1 h x (List.mem_of_mem_drop (List.mem_of_mem_take hx))
theorem idsLts_set{k j:Nat}{x:SV}:∀{l:List SV},idsLts k l=true->idsLt k x=true->idsLts k (l.set j x)=true:=by
 intro l h hx;refine idsLts_mem.2 fun y hy=> ?_;rcases List.mem_or_eq_of_mem_set hy with h1|h1
 ·exact idsLts_mem.1 h y h1
 ·rw[h1];exact hx
theorem idsLts_put{k:Nat}:∀{r l:List SV}{off:Nat},idsLts k l=true->idsLts k r=true->idsLts k (putRow l off r)=true
 | [],l,off,h,_=>h
 | x :: r, l, off, h, h' => by simp only[idsLts,aTz]at h';show idsLts k (putRow (l.set off x) (off+1) r)=true;exact idsLts_put (idsLts_set h h'.1) h'.2
mutual
theorem ofV_ids:∀v:Value,idsLt 0 (ofV v)=true
 | .bool _=>rfl
 | .int _ _=>rfl
 | .float k x => by
   cases k
   ·rfl
   ·simp only[ofV,ofW];split<;>rfl
 | .complex _ _ _=>rfl
 | .string _=>rfl
 | .pointer none=>rfl
 | .pointer (some _)=>rfl
 | .slice _ _ _=>rfl
 | .map _=>rfl
 | .chan _=>rfl
 | .func _ _ _=>rfl
 | .nilFunc=>rfl
 | .iface _ _=>rfl
 | .nilIface=>rfl
 | .agg cs=>by simp only[ofV,idsLt];exact ofA_ids cs
 | .tuple cs=>by simp only[ofV,idsLt];exact ofA_ids cs
theorem ofA_ids:∀l:Array Value,idsLts 0 (ofA l)=true
 |⟨l⟩=>by simp only[ofA];exact ofVs_ids l
theorem ofVs_ids:∀l:List Value,idsLts 0 (ofVs l)=true
 | []=>rfl
 |v::l=>by simp only[ofVs,idsLts,aTz];exact⟨ofV_ids v,ofVs_ids l⟩
end
inductive BK where
 |ex
 |row (size:Nat)
 |dead
 |num
 |rown (size:Nat)
 |ro (z:Nat×Nat)
def BK.z:BK->Nat×Nat
 | .ro z=>z
 |_=>(0,0)
structure Blk where
 elem:TypeId
 cells:List SV
 k:BK
def Blk.live(b:Blk):Bool:=match b.k with
 | .dead=>false
 |_=>true
def kOk(m:Nms)(r:Nat)(cs:List SV)(cv sp:List Value):BK->Prop
 | .ex=>sp=[]
 | .row s=>(cv++sp).length=m.c r*s/\m.c r<=maxLen
 | .dead=>True
 | .num=>sp=[]/\idsLts 0 cs=true
 | .rown s=>((cv++sp).length=m.c r*s/\m.c r<=maxLen)/\idsLts 0 cs=true
 | .ro _=>sp=[]/\idsLts 0 cs=true
structure BlkIs (m:Nms) (w:World) (r:Nat) (b:Blk) (cv sp:List Value):Prop where
 d:dens m b.cells=some cv
 h:w.heap[r]? =some (.cells (cv++sp).toArray b.elem b.k.z)
 k:kOk m r b.cells cv sp b.k
def BlkAt(m:Nms)(w:World)(r:Nat)(b:Blk):Prop:=b.live=true->∃cv sp,BlkIs m w r b cv sp
theorem BlkAt.ex{m:Nms}{w:World}{r:Nat}{e:TypeId}{cs:List SV}(h:BlkAt m w r ⟨e,cs,.ex⟩):∃cv,dens m cs=some cv/\w.heap[r]? =some (.cells cv.toArray e (0,0)):=by obtain⟨cv,sp,d,hh,k⟩:=h rfl;have k':sp=[]:=k;subst k';exact⟨cv,d,by simpa[BK.z]using hh⟩
theorem BlkAt.mk_ex{m:Nms}{w:World}{r:Nat}{e:TypeId}{cs:List SV}{cv:List Value}(d:dens m cs=some cv)(h:w.heap[r]? =some (.cells cv.toArray e (0,0))):BlkAt m w r ⟨e,cs,.ex⟩:=
 fun _=>⟨cv,[],d,by simpa[BK.z]using h,rfl⟩
theorem BlkAt.num{m:Nms}{w:World}{r:Nat}{e:TypeId}{cs:List SV}(h:BlkAt m w r ⟨e,cs,.num⟩):∃cv,dens m cs=some cv/\w.heap[r]? =some (.cells cv.toArray e (0,0)):=by obtain⟨cv,sp,d,hh,k⟩:=h rfl;have k':sp=[]:=k.1;subst k';exact⟨cv,d,by simpa[BK.z]using hh⟩
theorem BlkAt.mk_num{m:Nms}{w:World}{r:Nat}{e:TypeId}{cs:List SV}{cv:List Value}(hi:idsLts 0 cs=true)(d:dens m cs=some cv)(h:w.heap[r]? =some (.cells cv.toArray e (0,0))):BlkAt m w r ⟨e,cs,.num⟩:=
 fun _=>⟨cv,[],d,by simpa[BK.z]using h,rfl,hi⟩
theorem BlkAt.mk_ro{m:Nms}{w:World}{r:Nat}{e:TypeId}{cs:List SV}{cv:List Value}{z:Nat×Nat}(hi:idsLts 0 cs=true)(d:dens m cs=some cv)(h:w.heap[r]? =some (.cells cv.toArray e z)):BlkAt m w r ⟨e,cs,.ro z⟩:=
 fun _=>⟨cv,[],d,by simpa[BK.z]using h,rfl,hi⟩
theorem BlkAt.dead(m:Nms)(w:World)(r:Nat)(e:TypeId)(cs:List SV):BlkAt m w r ⟨e,cs,.dead⟩:=fun h=>by cases h
theorem kOk_ext{m m':Nms}{r:Nat}{cs cs':List SV}{cv sp:List Value}{k:BK}(h:kOk m r cs cv sp k)(hc:m'.c r=m.c r)(hq:idsLts 0 cs=true->idsLts 0 cs'=true):kOk m' r cs' cv sp k:=by
 cases k with
 |ex=>exact h
 |row s=>exact⟨by rw[hc];exact h.1,by rw[hc];exact h.2⟩
 |dead=>exact trivial
 |num=>exact⟨h.1,hq h.2⟩
 |rown s=>exact⟨⟨by rw[hc];exact h.1.1,by rw[hc];exact h.1.2⟩,hq h.2⟩
 |ro z=>exact⟨h.1,hq h.2⟩
theorem BlkAt.ext{m m':Nms}{w w':World}{r n:Nat}{b:Blk}(h:BlkAt m w r b)(he:Ext m m')(hn:m n=some r)(hw:w'.heap[r]? =w.heap[r]?):BlkAt m' w' r b:=by intro hl;obtain⟨cv,sp,d,hh,k⟩:=h hl;exact⟨cv,sp,dens_ext he d,by rw[hw];exact hh,kOk_ext k (he.c n r hn) id⟩
structure Fr (X:Nat->Prop) (w w':World):Prop where
 os:w'.os=w.os
 tape:w'.tape=w.tape
 output:w'.output=w.output
 size:w.heap.size<=w'.heap.size
 block:∀r,r<w.heap.size->¬X r->w'.heap[r]? =w.heap[r]?
theorem Fr.refl(X:Nat->Prop)(w:World):Fr X w w:=⟨rfl,rfl,rfl,Nat.le_refl _,fun _ _ _=>rfl⟩
theorem Fr.trans{X Y:Nat->Prop}{a b c:World}(h:Fr X a b)(k:Fr Y b c)(hy:∀r,r<a.heap.size->Y r->X r):Fr X a c:=
 ⟨k.os.trans h.os,k.tape.trans h.tape,k.output.trans h.output,Nat.le_trans h.size k.size,
  fun r hr hx=>(k.block r (Nat.lt_of_lt_of_le hr h.size) fun y=>hx (hy r hr y)).trans (h.block r hr hx)⟩
theorem Fr.mono{X Y:Nat->Prop}{a b:World}(h:Fr X a b)(hy:∀r,r<a.heap.size->X r->Y r):Fr Y a b:=
 ⟨h.os,h.tape,h.output,h.size,fun r hr hn=>h.block r hr fun x=>hn (hy r hr x)⟩
theorem Fr.drew(X:Nat->Prop)(w:World):Fr X w {w with drawn:=w.drawn+1}:=⟨rfl,rfl,rfl,Nat.le_refl _,fun _ _ _=>rfl⟩
structure NameOk (m:Nms) (w:World):Prop where
 lt:∀n r,m n=some r->r<w.heap.size
structure OpPost (m:Nms) (w:World) (L:Nat->Prop) (x:SV) (wr:List (Nat×Blk)) (m':Nms) (v:Value) (w':World):Prop where
 ext:Ext m m'
 val:den m' x=some v
 blk:∀p∈wr,∃r,m' p.1=some r/\BlkAt m' w' r p.2
 fr:Fr (fun r=>∃p∈wr,m p.1=some r/\L p.1) w w'
 new:∀n r,m' n=some r->m n=some r\/((∃p∈wr,p.1=n)/\(w.heap.size<=r\/∃q,m q=some r/\L q))
 ok:NameOk m' w'
 src:∀p∈wr,p.2.live=true->∀r,m' p.1=some r->w.heap.size<=r\/∃q∈wr,m q.1=some r/\L q.1
 uni:∀p∈wr,∀p'∈wr,p.2.live=true->p'.2.live=true->∀r,m' p.1=some r->m' p'.1=some r->p.1=p'.1
 dd:∀p∈wr,∀r,m p.1=some r->p.2.live=true->L p.1
theorem OpPost.pure{m:Nms}{w:World}{L:Nat->Prop}{x:SV}{v:Value}(hm:NameOk m w)(h:den m x=some v):OpPost m w L x [] m v w:=
 ⟨Ext.refl m,h,by simp,Fr.refl _ _,fun n r hr=> .inl hr,hm,by simp,by simp,by simp⟩
def OpGoes(P:Program)(o:Oper)(ρv:Operand->Value)(w:World)(Φ:Value->World->Prop):Prop:=
 ∀(a:Act)(K:Act->World->Prop)(Q:Exit->Act->World->Prop),execOp a.eval o=execOp ρv o->(∀v w',Φ v w'->K (a.put o.dst v) w')->o.wp P a w K Q
theorem OpGoes.value{P:Program}{o:Oper}{ρv:Operand->Value}{w w':World}{v:Value}{Φ:Value->World->Prop}(h:(execOp ρv o).run P w= .ok (.value v) w')(hp:Φ v w'):OpGoes P o ρv w Φ:=by intro a K Q he hk;unfold Oper.wp;rw[he,h];exact hk _ _ hp
theorem OpGoes.skip{P:Program}{o:Oper}{ρv:Operand->Value}{w w':World}{Φ:Value->World->Prop}(h:(execOp ρv o).run P w= .ok .skip w')(hp:Φ undef w'):OpGoes P o ρv w Φ:=by intro a K Q he hk;unfold Oper.wp;rw[he,h];exact hk _ _ hp
theorem OpGoes.enter{P:Program}{o:Oper}{ρv:Operand->Value}{w w':World}{f:FuncId}{args:Array Value}{Φ:Value->World->Prop}(h:(execOp ρv o).run P w= .ok (.enter f args) w')
  (hp:Calls P f args w' fun e w''=>∃v,e= .returned v/\Φ v w''):OpGoes P o ρv w Φ:=by
 intro a K Q he hk;unfold Oper.wp;rw[he,h];refine Calls.mono hp fun e w'' hh=> ?_;obtain⟨v,rfl,hv⟩:=hh;exact hk _ _ hv
theorem OpGoes.mono{P:Program}{o:Oper}{ρv:Operand->Value}{w:World}{Φ Ψ:Value->World->Prop}(h:OpGoes P o ρv w Φ)(hp:∀v w',Φ v w'->Ψ v w'):OpGoes P o ρv w Ψ:=
 fun a K Q he hk=>h a K Q he fun v w' x=>hk v w' (hp v w' x)
def loadS(P:Program)(t:TypeId)(b:Blk)(off:Nat):Option SV:=
 match isAggT P t with
 | some true => match sizeT P t with
   |some s=>if off+s<=b.cells.length then some (.agg ((b.cells.drop off).take s))else none
   |none=>none
 |some false=>b.cells[off]?
 |none=>none
def loadL(P:Program)(t:TypeId)(b:Blk)(off:Nat):Option SV:=match b.k with
 | .dead=>none
 |_=>loadS P t b off
inductive CK where
 |f
 |i (k:IntKind)
def ckFs(rec:TypeId->Option (List CK)):List Field->Option (List CK)
 | []=>some []
 | f :: r => match rec f.type, ckFs rec r with
   |some a,some b=>some (a++b)
   |_,_=>none
def ckRep(l:List CK):Nat->List CK
 |0=>[]
 |n+1=>l++ckRep l n
def ckT(P:Program):Nat->TypeId->Option (List CK)
 |0,_=>none
 | d + 1, t => match P.underlying t with
   |some (.float .f64)=>some [.f]
   |some (.int k)=>some [.i k]
   |some (.struct fs)=>ckFs (ckT P d) fs.toList
   |some (.array n e)=>(ckT P d e).map fun l=>ckRep l n
   |_=>none
def flAt(cells:List SV)(j:Nat):Bu.F:=match cells[j]? with
 |some (.fl x)=>x
 |_=>Bu.F.zero
def inAt(cells:List SV)(j:Nat):Int:=match cells[j]? with
 |some (.i _ n)=>n
 |some (.si _ n)=>n
 |_=>0
def ckOk(cells:List SV)(j:Nat):CK->Bool
 | .f => match cells[j]? with
   |some (.fl _)=>true
   |_=>false
 | .i k => match cells[j]? with
   |some (.i k' _)=>decide (k'=k)
   |some (.si k' _)=>decide (k'=k)
   |_=>false
def ckSV(cells:List SV)(j:Nat):CK->SV
 | .f=> .fl (flAt cells j)
 | .i k=> .si k (inAt cells j)
def ckRow(cells:List SV):Nat->List CK->List SV
 |_,[]=>[]
 |j,k::l=>ckSV cells j k::ckRow cells (j+1) l
def ckAll(cells:List SV):Nat->List CK->Bool
 |_,[]=>true
 |j,k::l=>ckOk cells j k&&ckAll cells (j+1) l
def loadY(P:Program)(t:TypeId)(b:Blk)(off:Nat):Option (SV×Obs):=
 match b.k with
 | .dead=>none
 | _ => match ckT P 8 t, sizeT P t, isAggT P t with
   | some (k :: ks), some s, some ag => if (k :: ks).length = s then (match ag with
     |true=>some (.agg (ckRow b.cells off (k::ks)),[(ckAll b.cells off (k::ks),true)])
     | false => match ks with
       | []=>some (ckSV b.cells off k,[(ckAll b.cells off [k],true)])
       |_=>none)else none
   |_,_,_=>none
section
variable {P:Program} {m:Nms} {w:World}
theorem blk_cell{r:Nat}{cv:List Value}{e:TypeId}{z:Nat×Nat}(h:w.heap[r]? =some (.cells cv.toArray e z))(j:Nat):w.cell? ⟨r,j,none⟩=cv[j]? :=by simp[World.cell?,h]
theorem live_of{b:Blk}{α:Type}{x y:Option α}{z:α}(h:(match b.k with| .dead=>(none:Option α)|_=>x)=some z):b.live=true/\x=some z:=by unfold Blk.live;cases hk:b.k<;>rw[hk]at h<;>first|exact⟨rfl,h⟩|cases h
theorem load_at{t:TypeId}{off s:Nat}{cv sp:List Value}{r:Nat}{e:TypeId}{z:Nat×Nat}(ha:isAggT P t=some true)(hs:sizeT P t=some s)(hle:off+s<=cv.length)(hh:w.heap[r]? =some (.cells (cv++sp).toArray e z)) :
  (loadVar t ⟨r,off,none⟩).run P w= .ok (.agg ((cv.drop off).take s).toArray) w:=by
 have hr:=run_loadCells_list (P:=P) w ⟨r,off,none⟩ ((cv.drop off).take s) (fun j v hj=>by
  rw[Addr_add,blk_cell hh];by_cases hjs:j<s
  ·rw[List.getElem?_take_of_lt hjs,List.getElem?_drop]at hj;rw[List.getElem?_append_left (by omega)];exact hj
  ·rw[List.getElem?_eq_none (by simp;omega)]at hj;cases hj)
 have hlen:((cv.drop off).take s).length=s:=by simp;omega
 rw[hlen]at hr;simp only[loadVar,Sem.run_bind,run_isAgg ha,Result.andThen_ok,if_true,run_sizeOf hs,hr,Sem.run_pure]
theorem load_one{t:TypeId}{off:Nat}{cv sp:List Value}{r:Nat}{e:TypeId}{v:Value}{z:Nat×Nat}(ha:isAggT P t=some false)(hv:cv[off]? =some v)(hh:w.heap[r]? =some (.cells (cv++sp).toArray e z)) :
  (loadVar t ⟨r,off,none⟩).run P w= .ok v w:=by
 have hlt:off<cv.length:=by
  rcases Nat.lt_or_ge off cv.length with h'|h'
  ·exact h'
  ·rw[List.getElem?_eq_none h']at hv;cases hv
 simp only[loadVar,Sem.run_bind,run_isAgg ha,Result.andThen_ok,Bool.false_eq_true,if_false,run_load,blk_cell hh,List.getElem?_append_left hlt,hv]
theorem loadL_ok{t:TypeId}{b:Blk}{off:Nat}{x:SV}{r:Nat}(h:loadL P t b off=some x)(hb:BlkAt m w r b) :
  ∃v,den m x=some v/\(loadVar t ⟨r,off,none⟩).run P w= .ok v w:=by
 unfold loadL at h;obtain⟨hl,h⟩:=live_of (y:=(none:Option SV)) h;obtain⟨cv,sp,hc,hh,_⟩:=hb hl;have hlen:=dens_length hc;unfold loadS at h;split at h
 ·rename_i ha;split at h
  ·rename_i s hs;split at h
   ·rename_i hle;simp only[sIz]at h;subst h;exact⟨.agg ((cv.drop off).take s).toArray,by simp[den,dens_take (dens_drop hc off) s],load_at ha hs (by omega) hh⟩
   ·cases h
  ·cases h
 ·rename_i ha;obtain⟨v,hv,hd⟩:=dens_get hc h;exact⟨v,hd,load_one ha hv hh⟩
 ·cases h
theorem ckOk_ok{cells:List SV}{cv:List Value}(hc:dens m cells=some cv){j:Nat}{k:CK}(h:ckOk cells j k=true):∃v,cv[j]? =some v/\den m (ckSV cells j k)=some v:=by
 unfold ckOk at h;split at h
 ·split at h
  ·rename_i x hx;obtain⟨v,hv,hd⟩:=dens_get hc hx;exact⟨v,hv,by unfold ckSV flAt;rw[hx];exact hd⟩
  ·cases h
 ·split at h
  ·rename_i k' n hx;have e:=oTz h;subst e;obtain⟨v,hv,hd⟩:=dens_get hc hx;exact⟨v,hv,by unfold ckSV inAt;rw[hx];simpa[den]using hd⟩
  ·rename_i k' n hx;have e:=oTz h;subst e;obtain⟨v,hv,hd⟩:=dens_get hc hx;exact⟨v,hv,by unfold ckSV inAt;rw[hx];simpa[den]using hd⟩
  ·cases h
theorem ckRow_ok{cells:List SV}{cv:List Value}(hc:dens m cells=some cv):∀{ks:List CK}{j:Nat},ckAll cells j ks=true->dens m (ckRow cells j ks)=some ((cv.drop j).take ks.length)/\(ks=[]\/j+ks.length<=cv.length)
 | [],j,h=>⟨by simp[ckRow,dens],.inl rfl⟩
 | k :: l, j, h => by
   unfold ckAll at h;rw[aTz]at h;obtain⟨v,hv,hd⟩:=ckOk_ok hc h.1;obtain⟨h1,h2⟩:=ckRow_ok hc h.2;have hlt:j<cv.length:=by
    rcases Nat.lt_or_ge j cv.length with h'|h'
    ·exact h'
    ·rw[List.getElem?_eq_none h']at hv;cases hv
   have e:cv.drop j=v::cv.drop (j+1):=by rw[List.drop_eq_getElem_cons hlt];rw[List.getElem?_eq_getElem hlt,sIz]at hv;rw[hv]
   refine⟨?_,.inr ?_⟩
   ·rw[e,List.length_cons,List.take_succ_cons];exact dens_cons hd h1
   ·rcases h2 with rfl|h2
    ·rw[List.length_cons,List.length_nil];omega
    ·rw[List.length_cons];omega
theorem loadY_ok{t:TypeId}{b:Blk}{off:Nat}{x:SV}{ob:Obs}{r:Nat}(h:loadY P t b off=some (x,ob))(ho:ObsOk ob)(hb:BlkAt m w r b) :
  ∃v,den m x=some v/\(loadVar t ⟨r,off,none⟩).run P w= .ok v w:=by
 unfold loadY at h;obtain⟨hl,h⟩:=live_of (y:=(none:Option (SV×Obs))) h;obtain⟨cv,sp,hc,hh,_⟩:=hb hl;split at h
 ·rename_i k ks s ag _ hs ha;split at h
  ·rename_i hlen;split at h
   ·simp only[sIz,pIz]at h;obtain⟨rfl,rfl⟩:=h;obtain⟨h1,h2⟩:=ckRow_ok hc (obs1 ho);have h3:off+(k::ks).length<=cv.length:=h2.resolve_left (by simp);rw[hlen]at h1 h3;exact⟨.agg ((cv.drop off).take s).toArray,by simp only[den,h1,Option.map_some],load_at ha hs h3 hh⟩
   ·split at h
    ·simp only[sIz,pIz]at h;obtain⟨rfl,rfl⟩:=h;have h1:=obs1 ho;unfold ckAll at h1;rw[aTz]at h1;obtain⟨v,hv,hd⟩:=ckOk_ok hc h1.1;exact⟨v,hd,load_one ha hv hh⟩
    ·cases h
  ·cases h
 ·cases h
def SV.scalar:SV->Bool
 | .agg _| .tup _=>false
 | .o v=>v.oneCell'
 |_=>true
theorem scalar_ok{x:SV}{v:Value}(h:x.scalar=true)(hx:den m x=some v):v.oneCell'=true:=by
 cases x with
 |agg l=>simp[SV.scalar]at h
 |tup l=>simp[SV.scalar]at h
 |o u=>simp only[den,sIz]at hx;subst hx;exact h
 | _ =>
   simp only[den,sIz,mIz,Option.bind_eq_some_iff,oslV_some]at hx
   first
    |(subst hx;rfl)
    |(obtain⟨_,_,_,rfl⟩:=hx;rfl)
    |(obtain⟨_,_,rfl⟩:=hx;rfl)
    |(obtain⟨_,_,_,_,rfl⟩:=hx;rfl)
theorem run_storeCells{r:Nat}{e:TypeId}{off:Nat}:∀{l:List SV}{vs:List Value}{i:Nat}{cv:List Value}{w:World},dens m l=some vs->(l.all SV.scalar)=true->w.heap[r]? =some (.cells cv.toArray e (0,0))->off+i+vs.length<=cv.length->
  ∃w',(storeCells ⟨r,off,none⟩ vs i).run P w= .ok () w'/\w'.heap[r]? =some (.cells (putRowV cv (off+i) vs).toArray e (0,0))/\(∀k,k≠r->w'.heap[k]? =w.heap[k]?)/\w'.heap.size=w.heap.size/\w'.os=w.os/\w'.tape=w.tape/\w'.output=w.output
 | [], vs, i, cv, w, h1, h2, h3, h4 => by simp[dens]at h1;subst h1;exact⟨w,by simp[storeCells],by simpa[putRowV]using h3,fun _ _=>rfl,rfl,rfl,rfl,rfl⟩
 | x :: l, vs, i, cv, w, h1, h2, h3, h4 => by
   obtain⟨v,us,a,b,rfl⟩:=dens_cons_some.1 h1;simp only[List.all_cons,aTz]at h2;simp only[List.length_cons]at h4;have hone:=scalar_ok h2.1 a;have hcell:w.cell? ⟨r,off+i,none⟩=some (cv[off+i]'(by omega)):=by rw[blk_cell h3];simp
   have hfz:w.frozen? ⟨r,off+i,none⟩=false:=by simp[World.frozen?,h3]
   have hrun:(store ((⟨r,off,none⟩:Addr).add i) v).run P w= .ok () (w.setCell ⟨r,off+i,none⟩ v):=by rw[Addr_add,run_store P w _ v .plain hone,hcell];simp[hfz]
   have hh:(w.setCell ⟨r,off+i,none⟩ v).heap[r]? =some (.cells (cv.set (off+i) v).toArray e (0,0)):=by simp only[World.setCell,Array.getElem?_modify,if_true,h3,Option.map_some];simp
   have hlen:off+(i+1)+us.length<=(cv.set (off+i) v).length:=by rw[List.length_set];omega
   obtain⟨w',g1,g2,g3,g4,g5,g6,g7⟩:=run_storeCells (vs:=us) (cv:=cv.set (off+i) v) (i:=i+1) (w:=w.setCell ⟨r,off+i,none⟩ v) b h2.2 hh hlen;refine⟨w',?_,?_,?_,?_,g5,g6,g7⟩
   ·simp only[storeCells,Sem.run_bind];rw[hrun];exact g1
   ·simpa[putRowV,Nat.add_assoc]using g2
   ·intro k hk;rw[g3 k hk];simp only[World.setCell,Array.getElem?_modify];rw[if_neg (fun e=>hk e.symm)]
   ·rw[g4];simp
end
theorem putRowV_app(l:List Value):∀(cv sp:List Value)(off:Nat),off+l.length<=cv.length->putRowV (cv++sp) off l=putRowV cv off l++sp:=by
 induction l with
 |nil=>intro _ _ _ _;rfl
 | cons x l ih =>
   intro cv sp off h;simp only[List.length_cons]at h;simp only[putRowV];rw[List.set_append_left _ _ (by omega),ih _ _ _ (by rw[List.length_set];omega)]
theorem putRowV_length(l:List Value):∀(cv:List Value)(off:Nat),(putRowV cv off l).length=cv.length:=by
 induction l with
 |nil=>intro _ _;rfl
 |cons x l ih=>intro cv off;simp[putRowV,ih]
structure ApX where
 n:Nat
 b:Blk
 off:Nat
 m:Nat
 y:Bool
def apX(get:Nat->Option Blk):SV->Option ApX
 | .sl n off len _=>(get n).map fun b=>⟨n,b,off,len,false⟩
 | .ssl n off len _=>(get n).map fun b=>⟨n,b,off,len,true⟩
 | .osl y n len=>(get n).map fun b=>⟨n,b,0,len,y⟩
 |_=>none
inductive ApS where
 |nil
 |full (n:Nat) (b:Blk) (off len:Nat)
 |own (n:Nat) (b:Blk) (len:Nat) (y:Bool)
def apS(get:Nat->Option Blk):SV->Option ApS
 | .o (.slice none 0 0)=>some .nil
 | .sl n off len cap=>(get n).bind fun b=>if Nat.beq len cap then some (.full n b off len)else none
 | .osl y n len=>(get n).map fun b=> .own n b len y
 |_=>none
def ApX.news(x:ApX)(s:Nat):List SV:=(x.b.cells.drop x.off).take (x.m*s)
def ApS.len:ApS->Nat
 | .nil=>0
 | .full _ _ _ len=>len
 | .own _ _ len _=>len
def ApS.y:ApS->Bool
 | .own _ _ _ y=>y
 |_=>false
def ApS.olds(s:ApS)(z:Nat):List SV:=match s with
 | .nil=>[]
 | .full _ b off len=>(b.cells.drop off).take (len*z)
 | .own _ b _ _=>b.cells
def sameKind:BK->Nat->Bool
 | .row s,z=>Nat.beq s z
 | .rown s,z=>Nat.beq s z
 |_,_=>false
def Blk.nums(b:Blk):Bool:=match b.k with
 | .num=>true
 | .rown _=>true
 | .ro _=>true
 |_=>idsLts 0 b.cells
def ApS.nums:ApS->Bool
 | .nil=>true
 | .full _ b _ _=>b.nums
 | .own _ b _ _=>b.nums
def apK(y q:Bool)(s:Nat):Option BK:=match y with
 |false=>some (.row s)
 | true => match q with
   |true=>some (.rown s)
   |false=>none
def ApS.ok(s:ApS)(e z:Nat):Bool:=match s with
 | .nil=>true
 | .full _ b _ _=>b.live
 | .own _ b _ _=>sameKind b.k z&&Nat.beq b.elem e
def ApS.rd:ApS->List Nat
 | .nil=>[]
 | .full n _ _ _=>[n]
 | .own n _ _ _=>[n]
def ApS.dead:ApS->List (Nat×Blk)
 | .own n b _ _=>[(n,⟨b.elem,[],.dead⟩)]
 |_=>[]
def apC(s:ApS)(x:ApX)(z bytes:Nat):Bool:=
 decide (1<=x.m)&&(decide (s.len+x.m<=maxLen)&&(decide ((s.len+x.m)*bytes<=140737488355328)&&(decide (x.off+x.m*z<=x.b.cells.length)&&((x.news z).all SV.scalar&&decide ((s.olds z).length=s.len*z)))))
def apO(y c:Bool):Option Obs:=match y with
 |true=>some [(c,true)]
 | false => match c with
   |true=>some []
   |false=>none
def evAppend(P:Program)(t:TypeId)(get:Nat->Option Blk)(fresh:Nat)(s x:SV):Option (SV×List (Nat×Blk)×List Nat×Obs):=
 match P.underlying t with
 | some (.slice e) => match P.info? e with
   | some ti => match ti.zero with
     | some z => match apS get s, apX get x with
       | some s, some x =>
         if (s.ok e ti.size&&x.b.live&&Nat.beq z.cells.size ti.size&&Nat.blt 0 ti.size)=true then
          match apO (s.y||x.y) (apC s x ti.size ti.bytes),apK (s.y||x.y) (s.nums&&x.b.nums) ti.size with
          |some ob,some k=>some (.osl (s.y||x.y) fresh (s.len+x.m),s.dead++ [(fresh,⟨e,s.olds ti.size++x.news ti.size,k⟩)],s.rd++ [x.n],ob)
          |_,_=>none
         else none
       |_,_=>none
     |none=>none
   |none=>none
 |_=>none
def stK:BK->List SV->Bool
 | .num,l=>idsLts 0 l
 | .rown _,l=>idsLts 0 l
 | .ro _,_=>false
 |_,_=>true
theorem stK_z{k:BK}{l:List SV}(h:stK k l=true):k.z=(0,0):=by cases k<;>first|rfl|cases h
theorem row_z{k:BK}{s:Nat}{q:Prop}(h:k= .row s\/k= .rown s/\q):k.z=(0,0):=by rcases h with rfl|⟨rfl,_⟩<;>rfl
def mkC(bytes:Nat)(a b:Int):Bool:=decide (0<=a)&&(decide (a=b)&&decide ((bytes:Int)*a<=281474976710656))
def evMake(P:Program)(t:TypeId)(fresh:Nat)(l c:SV):Option (SV×List (Nat×Blk)×List Nat×Obs):=
 match P.underlying t with
 | some (.slice e) => match P.info? e with
   | some ti => match ti.zero with
     | some z => match l, c with
       | .i _ a, .i _ b => match mkC ti.bytes a b && decide (a ≤ 9223372036854775807) with
         |true=>some (.sl fresh 0 a.toNat a.toNat,[(fresh,⟨e,ofA (madeCells z.cells (a.toNat*ti.size)),.ex⟩)],[],[])
         |false=>none
       | .si _ a,.si _ b=>some (.ssl fresh 0 a.toNat a.toNat,[(fresh,⟨e,ofA (madeCells z.cells (a.toNat*ti.size)),.num⟩)],[],[(mkC ti.bytes a b&&decide (a<=9223372036854775807),true)])
       |_,_=>none
     |none=>none
   |none=>none
 |_=>none
def evMem(P:Program)(ρ:Operand->SV)(get:Nat->Option Blk)(fresh:Nat)(o:Oper):Option (SV×List (Nat×Blk)×List Nat×Obs):=
 match o.op with
 | .alloc elem => match P.info? elem with
   | some ti => match ti.zero with
     |some z=>some (.p fresh 0,[(fresh,⟨elem,ofA z.cells,.ex⟩)],[],[])
     |none=>none
   |none=>none
 | .box elem x=>some (.p fresh 0,[(fresh,⟨elem,(ρ x).cells,.ex⟩)],[],[])
 | .buildSlice t len parts => match P.underlying t with
   | some (.slice elem) => match P.info? elem with
     | some ti => match ti.zero with
       | some z =>
         if len*ti.size<=16777216/\len*ti.size≠0 then
          (fillS (fun i=>some (i*ti.size,ti.size)) (ofA ((Array.range (len*ti.size)).map (z.cells[· %z.cells.size]!))) (parts.toList.map fun q=>(q.1,ρ q.2))).map fun cells=>
           (.sl fresh 0 len len,[(fresh,⟨elem,cells,.ex⟩)],[],[])
         else match len,parts.toList with
          |0,[]=>some (.sl fresh 0 0 0,[(fresh,⟨elem,[],.ex⟩)],[],[])
          |_,_=>none
       |none=>none
     |none=>none
   |_=>none
 | .load t a => match ρ a with
   | .p n off => match get n with
     |some b=>(loadL P t b off).map fun x=>(x,[],[n],[])
     |none=>none
   | .sp n off => match get n with
     |some b=>(loadY P t b off).map fun x=>(x.1,[],[n],x.2)
     |none=>none
   |_=>none
 | .store t a x => match ρ a with
   | .p n off => match get n with
     | some b =>
       if sizeT P t=some (ρ x).cells.length/\off+(ρ x).cells.length<=b.cells.length/\((ρ x).cells.all SV.scalar)=true/\b.live=true/\stK b.k (ρ x).cells=true then
        some (.tup [],[(n,⟨b.elem,putRow b.cells off (ρ x).cells,b.k⟩)],[n],[])
       else none
     |none=>none
   | .sp n off => match get n with
     | some b =>
       if sizeT P t=some (ρ x).cells.length/\((ρ x).cells.all SV.scalar)=true/\b.live=true/\stK b.k (ρ x).cells=true then
        some (.tup [],[(n,⟨b.elem,putRow b.cells off (ρ x).cells,b.k⟩)],[n],[(decide (off+(ρ x).cells.length<=b.cells.length),true)])
       else none
     |none=>none
   |_=>none
 | .makeSlice t l c=>evMake P t fresh (ρ l) (ρ c)
 | .call c => match c.callee with
   | .builtin .append => match c.args.toList, c.argTypes.toList with
     | [s,x],[t,t']=>if Nat.beq t t' then evAppend P t get fresh (ρ s) (ρ x)else none
     |_,_=>none
   |_=>none
 |_=>none
section
variable {P:Program} {m:Nms} {w:World} {L:Nat->Prop}
def addName(m:Nms)(n r:Nat):Nms:=⟨fun k=>if k=n then some r else m k,m.c⟩
def addRow(m:Nms)(n r c:Nat):Nms:=⟨fun k=>if k=n then some r else m k,fun a=>if a=r then c else m.c a⟩
theorem addName_self(m:Nms)(n r:Nat):addName m n r n=some r:=by simp[addName]
theorem addRow_self(m:Nms)(n r c:Nat):addRow m n r c n=some r:=by simp[addRow]
theorem addName_ext{n r:Nat}(h:m n=none):Ext m (addName m n r):=by
 refine⟨fun k q hk=> ?_,fun _ _ _=>rfl⟩;unfold addName;by_cases e:k=n
 ·subst e;rw[h]at hk;cases hk
 ·simp only;rw[if_neg e];exact hk
theorem addRow_ext{n c:Nat}(h:m n=none)(hm:NameOk m w):Ext m (addRow m n w.heap.size c):=by
 refine⟨fun k q hk=> ?_,fun k q hk=> ?_⟩
 ·unfold addRow;by_cases e:k=n
  ·subst e;rw[h]at hk;cases hk
  ·simp only;rw[if_neg e];exact hk
 ·have:=hm.lt k q hk;show(if q=w.heap.size then c else m.c q)=_;rw[if_neg (by omega)]
theorem fresh_post{fresh:Nat}{b:Blk}{x:SV}{v:Value}{m':Nms}{o:Obj}{w1:World}(hm:NameOk m w)(hf:m fresh=none)(he:Ext m m')(hn:∀k r,m' k=some r->(k=fresh/\r=w.heap.size)\/(k≠fresh/\m k=some r))(hs:m' fresh=some w.heap.size)
  (hw:Fr (fun _=>False) w w1) (hsz:w1.heap.size=w.heap.size) (hb:BlkAt m' (w1.alloc o) w.heap.size b) (hx:den m' x=some v) :
  OpPost m w L x [(fresh,b)] m' v (w1.alloc o):=by
 refine⟨he,hx,?_,?_,?_,?_,?_,?_,?_⟩
 ·intro p hp;simp only[List.mem_singleton]at hp;subst hp;exact⟨w.heap.size,hs,hb⟩
 ·refine⟨hw.os,hw.tape,hw.output,by simp[hsz],fun r hr _=> ?_⟩;show(w1.heap.push _)[r]? =_;rw[Array.getElem?_push,if_neg (by omega)];exact hw.block r hr (fun h=>h)
 ·intro n r hr;rcases hn n r hr with⟨rfl,rfl⟩|⟨_,h⟩
  ·exact .inr ⟨⟨_,List.mem_singleton.2 rfl,rfl⟩,.inl (Nat.le_refl _)⟩
  ·exact .inl h
 ·refine⟨fun n r hr=> ?_⟩;simp only[World.size_alloc,hsz];rcases hn n r hr with⟨_,rfl⟩|⟨_,h⟩
  ·omega
  ·have:=hm.lt _ _ h;omega
 ·intro p hp _ r hr;simp only[List.mem_singleton]at hp;subst hp;rw[hs]at hr;simp only[sIz]at hr;exact .inl (by omega)
 ·intro p hp p' hp' _ _ _ _ _;simp only[List.mem_singleton]at hp hp';subst hp;subst hp';rfl
 ·intro p hp r hr _;simp only[List.mem_singleton]at hp;subst hp;rw[hf]at hr;cases hr
theorem addName_cases{fresh r0:Nat}(k r:Nat)(h:addName m fresh r0 k=some r):(k=fresh/\r=r0)\/(k≠fresh/\m k=some r):=by
 unfold addName at h;by_cases e:k=fresh
 ·simp only[e,if_true,sIz]at h;exact .inl ⟨e,h.symm⟩
 ·simp only[if_neg e]at h;exact .inr ⟨e,h⟩
theorem addRow_cases{fresh r0 c:Nat}(k r:Nat)(h:addRow m fresh r0 c k=some r):(k=fresh/\r=r0)\/(k≠fresh/\m k=some r):=addName_cases (m:=m) k r h
theorem new_post{fresh:Nat}{e:TypeId}{cells:List SV}{cv:List Value}{x:SV}{v:Value}{kk:BK}(hkk:kk= .ex\/kk= .num/\idsLts 0 cells=true)(hm:NameOk m w)(hf:m fresh=none)(hc:dens m cells=some cv)
  (hx:den (addName m fresh w.heap.size) x=some v) :
  OpPost m w L x [(fresh,⟨e,cells,kk⟩)] (addName m fresh w.heap.size) v (w.alloc (.cells cv.toArray e)):=by
 have hext:=addName_ext (r:=w.heap.size) hf;refine fresh_post hm hf hext (fun k r h=>addName_cases k r h) (addName_self _ _ _) (Fr.refl _ _) rfl ?_ hx;intro _;refine⟨cv,[],dens_ext hext hc,?_,?_⟩
 ·show(w.heap.push _)[w.heap.size]? =some (.cells (cv++ []).toArray e kk.z);rw[show kk.z=(0,0) by rcases hkk with rfl|⟨rfl,_⟩<;>rfl];simp
 ·rcases hkk with rfl|⟨rfl,h⟩
  ·exact rfl
  ·exact⟨rfl,h⟩
theorem same_post{n r:Nat}{b:Blk}{v:Value}{w':World}(hm:NameOk m w)(hr:m n=some r)(hL:L n)(hx:den m (.tup [])=some v)(hb:BlkAt m w' r b)
  (hw:Fr (fun k=>k=r) w w') (hsz:w'.heap.size=w.heap.size):OpPost m w L (.tup []) [(n,b)] m v w':=by
 refine⟨Ext.refl m,hx,?_,?_,fun k q hq=> .inl hq,⟨fun k q hq=>by rw[hsz];exact hm.lt k q hq⟩,?_,?_,?_⟩
 ·intro p hp;simp only[List.mem_singleton]at hp;subst hp;exact⟨r,hr,hb⟩
 ·exact hw.mono fun k _ e=>⟨_,List.mem_singleton.2 rfl,by rw[e];exact hr,hL⟩
 ·intro p hp _ q hq;simp only[List.mem_singleton]at hp;subst hp;exact .inr ⟨_,List.mem_singleton.2 rfl,hq,hL⟩
 ·intro p hp p' hp' _ _ _ _ _;simp only[List.mem_singleton]at hp hp';subst hp;subst hp';rfl
 ·intro p hp q _ _;simp only[List.mem_singleton]at hp;subst hp;exact hL
theorem store_post{t:TypeId}{n r off:Nat}{b:Blk}{x:SV}{o:Oper}{ρv:Operand->Value}{a y:Operand}(hop:o.op= .store t a y)(hm:NameOk m w)(hr:m n=some r)(hat:BlkAt m w r b)(hL:L n)(ha:ρv a= .pointer (some ⟨r,off,none⟩))(hy:den m x=some (ρv y))
  (c1:sizeT P t=some x.cells.length) (c2:off+x.cells.length<=b.cells.length) (c3:(x.cells.all SV.scalar)=true) (c4:b.live=true) (c5:stK b.k x.cells=true) :
  OpGoes P o ρv w fun v w'=>OpPost m w L (.tup []) [(n,⟨b.elem,putRow b.cells off x.cells,b.k⟩)] m v w':=by
 obtain⟨cv,sp,hcv,hh,hk⟩:=hat c4;rw[stK_z c5]at hh;have hcy:=cells_ok hy;have hl1:=dens_length hcy;have hl2:=dens_length hcv;obtain⟨w',g1,g2,g3,g4,g5,g6,g7⟩:=run_storeCells (P:=P) (off:=off) (i:=0) (w:=w) hcy c3 hh (by rw[List.length_append];omega);refine OpGoes.skip (w':=w') ?_ (same_post hm hr hL (by simp[den,dens,undef]) ?_ ⟨g5,g6,g7,by omega,fun k _ hk=>g3 k hk⟩ g4)
 ·simp only[execOp,hop,ha,Instr.storeAt,Sem.run_bind,run_sureAddr,Result.andThen_ok,storeVar,run_sizeOf c1];rw[if_neg (by simp at hl1;omega)];simp only[Sem.run_pure]
  first|(rw[g1];rfl)|simp[g1]
 ·intro _;refine⟨putRowV cv off (ρv y).cells.toList,sp,putRow_ok (off:=off) hcv hcy,?_,?_⟩
  ·rw[Nat.add_zero,putRowV_app _ _ _ _ (by omega)]at g2;show _=some (Obj.cells _ b.elem b.k.z);rw[stK_z c5];exact g2
  ·show kOk m r (putRow b.cells off x.cells) _ sp b.k;cases hbk:b.k with
   |ex=>rw[hbk]at hk;exact hk
   | row s =>
     rw[hbk]at hk;refine⟨?_,hk.2⟩;rw[List.length_append,putRowV_length,<-List.length_append];exact hk.1
   |dead=>exact trivial
   | num =>
     rw[hbk]at hk c5;exact⟨hk.1,idsLts_put hk.2 c5⟩
   | rown s =>
     rw[hbk]at hk c5;refine⟨⟨?_,hk.1.2⟩,idsLts_put hk.2 c5⟩;rw[List.length_append,putRowV_length,<-List.length_append];exact hk.1.1
   | ro z =>
     rw[hbk]at c5;cases c5
theorem apX_ok{get:Nat->Option Blk}{x:SV}{q:ApX}{v:Value}(h:apX get x=some q)(hx:den m x=some v):get q.n=some q.b/\∃r cap,m q.n=some r/\v= .slice (some ⟨r,q.off,none⟩) q.m cap:=by
 unfold apX at h;split at h
 ·simp only[mIz]at h;obtain⟨b,hb,rfl⟩:=h;simp only[den,mIz]at hx;obtain⟨r,hr,rfl⟩:=hx;exact⟨hb,r,_,hr,rfl⟩
 ·simp only[mIz]at h;obtain⟨b,hb,rfl⟩:=h;simp only[den,mIz]at hx;obtain⟨r,hr,rfl⟩:=hx;exact⟨hb,r,_,hr,rfl⟩
 ·simp only[mIz]at h;obtain⟨b,hb,rfl⟩:=h;simp only[den,Option.bind_eq_some_iff]at hx;obtain⟨r,hr,hx⟩:=hx;obtain⟨_,rfl⟩:=oslV_some.1 hx;exact⟨hb,r,_,hr,rfl⟩
 ·cases h
theorem apO_ok{y c:Bool}{ob:Obs}(h:apO y c=some ob)(ho:ObsOk ob):c=true:=by
 unfold apO at h;split at h
 ·simp only[sIz]at h;subst h;exact obs1 ho
 ·split at h
  ·rfl
  ·cases h
structure ApC (s:ApS) (x:ApX) (z bytes:Nat):Prop where
 one:1<=x.m
 max:s.len+x.m<=maxLen
 byt:(s.len+x.m)*bytes<=140737488355328
 fit:x.off+x.m*z<=x.b.cells.length
 sca:(x.news z).all SV.scalar=true
 old:(s.olds z).length=s.len*z
theorem apC_ok{s:ApS}{x:ApX}{z bytes:Nat}(h:apC s x z bytes=true):ApC s x z bytes:=by unfold apC at h;simp only[aTz,decide_eq_true_eq]at h;obtain⟨a,b,c,d,e,f⟩:=h;exact⟨a,b,c,d,e,f⟩
theorem scalars_ok:∀{l:List SV}{vs:List Value},dens m l=some vs->(l.all SV.scalar)=true->∀u∈vs,u.oneCell'=true
 | [],vs,h,_=>by simp[dens]at h;subst h;simp
 | x :: l, vs, h, k => by
   obtain⟨v,us,a,b,rfl⟩:=dens_cons_some.1 h;simp only[List.all_cons,aTz]at k;intro u hu;rcases List.mem_cons.1 hu with rfl|hu
   ·exact scalar_ok k.1 a
   ·exact scalars_ok b k.2 u hu
theorem kind_of{m:Nms}{r size:Nat}{cs:List SV}{cv sp:List Value}{kk:BK}(hkk:kk= .row size\/kk= .rown size/\idsLts 0 cs=true)(h1:(cv++sp).length=m.c r*size)(h2:m.c r<=maxLen):kOk m r cs cv sp kk:=by
 rcases hkk with rfl|⟨rfl,h⟩
 ·exact⟨h1,h2⟩
 ·exact⟨⟨h1,h2⟩,h⟩
theorem row_post{fresh len cap:Nat}{y:Bool}{e:TypeId}{olds news:List SV}{ov nv:List Value}{z:Array Value}{size:Nat}{kk:BK}(hkk:kk= .row size\/kk= .rown size/\idsLts 0 (olds++news)=true)(hm:NameOk m w)(hf:m fresh=none)(ho:dens m olds=some ov)(hn:dens m news=some nv)
  (hl:ov.length+nv.length=len*size) (hz:z.size=size) (hc:len<=cap) (hmax:cap<=maxLen) :
  OpPost m w L (.osl y fresh len) [(fresh,⟨e,olds++news,kk⟩)] (addRow m fresh w.heap.size cap) (.slice (some ⟨w.heap.size,0,none⟩) len cap) (w.drew.alloc (.cells (ov.toArray++nv.toArray++Builtin.zeroCells z (cap-len)) e)):=by
 have hext:=addRow_ext (c:=cap) hf hm;have hcc:(addRow m fresh w.heap.size cap).c w.heap.size=cap:=by simp[addRow]
 refine fresh_post hm hf hext (fun k r h=>addRow_cases k r h) (addRow_self _ _ _ _) (Fr.drew _ w) rfl ?_ ?_
 ·intro _;refine⟨ov++nv,(Builtin.zeroCells z (cap-len)).toList,dens_ext hext (dens_append ho hn),?_,kind_of hkk ?_ ?_⟩
  ·show(w.heap.push _)[w.heap.size]? =some (.cells _ e kk.z);rw[row_z hkk];simp
  ·rw[hcc];simp only[List.length_append,Array.length_toList,Builtin.zeroCells,Array.size_map,Array.size_range,hl,hz];rw[<-Nat.add_mul];congr 1;omega
  ·rw[hcc];exact hmax
 ·simp only[den,addRow_self,Option.bind_some,hcc];exact oslV_some.2 ⟨hc,rfl⟩
theorem room_post{n fresh r len k:Nat}{y:Bool}{b:Blk}{e:TypeId}{news:List SV}{cv sp nv:List Value}{size:Nat}{w':World}{kk:BK}(hkk:kk= .row size\/kk= .rown size/\idsLts 0 (b.cells++news)=true)(hm:NameOk m w)(hf:m fresh=none)(hr:m n=some r)(hL:L n)(hc:dens m b.cells=some cv)(hn:dens m news=some nv)
  (hl:cv.length=len*size) (hk:nv.length=k*size) (ht:(cv++sp).length=m.c r*size) (hmax:m.c r<=maxLen) (hroom:len+k<=m.c r)
  (hh:w'.heap[r]? =some (.cells (cv++nv++sp.drop (k*size)).toArray e (0,0))) (hw:Fr (fun a=>a=r) w w') (hsz:w'.heap.size=w.heap.size) :
  OpPost m w L (.osl y fresh (len+k)) [(n,⟨b.elem,[],.dead⟩),(fresh,⟨e,b.cells++news,kk⟩)] (addName m fresh r) (.slice (some ⟨r,0,none⟩) (len+k) (m.c r)) w':=by
 have hext:=addName_ext (r:=r) hf;have hne:n≠fresh:=fun e=>by subst e;rw[hf]at hr;cases hr
 have hnn:addName m fresh r n=some r:=hext.n n r hr;have hrl:=hm.lt n r hr;have hks:k*size<=sp.length:=by have:(len+k)*size<=m.c r*size:=Nat.mul_le_mul_right _ hroom;rw[<-ht,List.length_append,hl,Nat.add_mul]at this;omega
 refine⟨hext,?_,?_,?_,?_,⟨fun a q hq=> ?_⟩,?_,?_,?_⟩
 ·simp only[den,addName_self,Option.bind_some];exact oslV_some.2 ⟨hroom,rfl⟩
 ·intro p hp;simp only[List.mem_cons,List.not_mem_nil,or_false]at hp;rcases hp with rfl|rfl
  ·exact⟨r,hnn,BlkAt.dead _ _ _ _ _⟩
  ·refine⟨r,addName_self _ _ _,fun _=>⟨cv++nv,sp.drop (k*size),dens_ext hext (dens_append hc hn),by show _=some (Obj.cells _ e kk.z);rw[row_z hkk];exact hh,kind_of hkk ?_ hmax⟩⟩;show(cv++nv++sp.drop (k*size)).length=m.c r*size;rw[<-ht];simp only[List.length_append,List.length_drop];omega
 ·exact hw.mono fun a _ e=>⟨(n,⟨b.elem,[],.dead⟩),List.mem_cons_self ..,by rw[e];exact hr,hL⟩
 ·intro a q hq;rcases addName_cases a q hq with⟨rfl,rfl⟩|⟨_,h⟩
  ·exact .inr ⟨⟨_,List.mem_cons_of_mem _ (List.mem_cons_self ..),rfl⟩,.inr ⟨_,hr,hL⟩⟩
  ·exact .inl h
 ·rw[hsz];rcases addName_cases a q hq with⟨rfl,rfl⟩|⟨_,h⟩
  ·exact hrl
  ·exact hm.lt _ _ h
 ·intro p hp hl' q hq;simp only[List.mem_cons,List.not_mem_nil,or_false]at hp;rcases hp with rfl|rfl
  ·cases hl'
  ·rw[addName_self]at hq;simp only[sIz]at hq;subst hq;exact .inr ⟨_,List.mem_cons_self ..,hr,hL⟩
 ·intro p hp p' hp' hl1 hl2 _ _ _;simp only[List.mem_cons,List.not_mem_nil,or_false]at hp hp';rcases hp with rfl|rfl
  ·cases hl1
  ·rcases hp' with rfl|rfl
   ·cases hl2
   ·rfl
 ·intro p hp q hq hl';simp only[List.mem_cons,List.not_mem_nil,or_false]at hp;rcases hp with rfl|rfl
  ·cases hl'
  ·rw[hf]at hq;cases hq
theorem OpPost.dead{n r:Nat}{e:TypeId}{x:SV}{wr:List (Nat×Blk)}{m':Nms}{v:Value}{w':World}(h:OpPost m w L x wr m' v w')(hr:m n=some r)(hL:L n):OpPost m w L x ((n,⟨e,[],.dead⟩)::wr) m' v w':=by
 refine⟨h.ext,h.val,?_,h.fr.mono fun a _ ⟨p,hp,k⟩=>⟨p,List.mem_cons_of_mem _ hp,k⟩,?_,h.ok,?_,?_,?_⟩
 ·intro p hp;rcases List.mem_cons.1 hp with rfl|hp
  ·exact⟨r,h.ext.n n r hr,BlkAt.dead _ _ _ _ _⟩
  ·exact h.blk p hp
 ·intro a q hq;rcases h.new a q hq with k|⟨⟨p,hp,hpe⟩,k⟩
  ·exact .inl k
  ·exact .inr ⟨⟨p,List.mem_cons_of_mem _ hp,hpe⟩,k⟩
 ·intro p hp hl q hq;rcases List.mem_cons.1 hp with rfl|hp
  ·cases hl
  ·exact(h.src p hp hl q hq).imp id fun⟨c,hc,k⟩=>⟨c,List.mem_cons_of_mem _ hc,k⟩
 ·intro p hp p' hp' hl hl' q h1 h2;rcases List.mem_cons.1 hp with rfl|hp
  ·cases hl
  ·rcases List.mem_cons.1 hp' with rfl|hp'
   ·cases hl'
   ·exact h.uni p hp p' hp' hl hl' q h1 h2
 ·intro p hp q hq hl;rcases List.mem_cons.1 hp with rfl|hp
  ·cases hl
  ·exact h.dd p hp q hq hl
theorem maxLen_le{n:Nat}(h:n<=maxLen):((n:Nat):Int)<=9223372036854775807:=by simp only[maxLen]at h;omega
theorem cells_of{cv sp:List Value}{r off k:Nat}{e:TypeId}{z:Nat×Nat}(hh:w.heap[r]? =some (.cells (cv++sp).toArray e z)):∀(j:Nat)(v:Value),((cv.drop off).take k)[j]? =some v->w.cell? ((⟨r,off,none⟩:Addr).add j)=some v:=by
 intro j v hj;rw[Addr_add,blk_cell hh];have h1:(cv.drop off)[j]? =some v:=by
  by_cases hjs:j<k
  ·rwa [List.getElem?_take_of_lt hjs]at hj
  ·rw[List.getElem?_eq_none (by simp;omega)]at hj;cases hj
 rw[List.getElem?_drop]at h1;have hlt:off+j<cv.length:=by
  rcases Nat.lt_or_ge (off+j) cv.length with h'|h'
  ·exact h'
  ·rw[List.getElem?_eq_none h']at h1;cases h1
 rw[List.getElem?_append_left hlt];exact h1
theorem nums_ok{b:Blk}{r:Nat}{cv sp:List Value}(h:kOk m r b.cells cv sp b.k)(hn:b.nums=true):idsLts 0 b.cells=true:=by
 unfold Blk.nums at hn;cases hk:b.k<;>rw[hk]at h hn
 ·exact hn
 ·exact hn
 ·exact hn
 ·exact h.2
 ·exact h.2
 ·exact h.2
theorem evAppend_ok{t:TypeId}{get:Nat->Option Blk}{fresh:Nat}{s x y:SV}{wr:List (Nat×Blk)}{rd:List Nat}{ob:Obs}(h:evAppend P t get fresh s x=some (y,wr,rd,ob))(ho:ObsOk ob)(hm:NameOk m w)
  (hnew:∀p∈wr,fresh<=p.1->m p.1=none) (hold:∀n∈rd,∀b,get n=some b->∃r,m n=some r/\BlkAt m w r b) (hL:∀n∈rd,∀b,get n=some b->b.live=true->L n)
  {vs vx:Value} (hs:den m s=some vs) (hx:den m x=some vx) (ty:TypeId) :
  ∃v w',(Builtin.append_ #[t,t] ty #[vs,vx]).run P w= .ok v w'/\∃m',OpPost m w L y wr m' v w':=by
 unfold evAppend at h;split at h
 ·rename_i e hd;split at h
  ·rename_i ti hti;split at h
   ·rename_i z hz;split at h
    ·rename_i qs qx hqs hqx;split at h
     ·rename_i hc;split at h
      ·rename_i ob' kk hob hkk0;simp only[sIz,pIz]at h;obtain⟨rfl,rfl,rfl,rfl⟩:=h;simp only[aTz]at hc;obtain⟨⟨⟨c1,c2⟩,c3⟩,c4⟩:=hc;have zs:z.cells.size=ti.size:=Nat.eq_of_beq_eq_true c3;have C:=apC_ok (apO_ok hob ho);obtain⟨hgx,rx,cx,hrx,rfl⟩:=apX_ok hqx hx;obtain⟨rx',hrx',hatx⟩:=hold qx.n (by simp) qx.b hgx;rw[hrx]at hrx';simp only[sIz]at hrx';subst hrx';obtain⟨cvx,spx,hcx,hhx,hkx⟩:=hatx c2;have hlx:=dens_length hcx;have hfit:=C.fit;have hn:dens m (qx.news ti.size)=some ((cvx.drop qx.off).take (qx.m*ti.size)):=dens_take (dens_drop hcx _) _;have hnl:((cvx.drop qx.off).take (qx.m*ti.size)).length=qx.m*ti.size:=by simp;omega
       have hcell:=cells_of hhx (off:=qx.off) (k:=qx.m*ti.size);have hsca:=scalars_ok hn C.sca;generalize (cvx.drop qx.off).take (qx.m*ti.size)=nv at hn hnl hcell hsca;have C1:=C.one;have C2:=C.max;have C3:=C.byt;have C5:=C.old;have hf:m fresh=none:=hnew (fresh,_) (List.mem_append_right _ (List.mem_singleton.2 rfl)) (Nat.le_refl _);have hkk:idsLts 0 (qs.olds ti.size)=true\/qs.nums=false->kk= .row ti.size\/kk= .rown ti.size/\idsLts 0 (qs.olds ti.size++qx.news ti.size)=true:=by
        intro hq;unfold apK at hkk0;split at hkk0
        ·simp only[sIz]at hkk0;exact .inl hkk0.symm
        ·split at hkk0
         ·rename_i hnn;rw[aTz]at hnn;simp only[sIz]at hkk0;refine .inr ⟨hkk0.symm,idsLts_app (hq.resolve_right (by rw[hnn.1];simp)) (idsLts_part (nums_ok hkx hnn.2))⟩
         ·cases hkk0
       unfold apS at hqs;split at hqs
       ·simp only[sIz]at hqs;subst hqs;simp only[den,sIz]at hs;subst hs;have C2':qx.m<=maxLen:=by have h:=C2;simp only[ApS.len,Nat.zero_add]at h;exact h
        have C3':qx.m*ti.bytes<=140737488355328:=by have h:=C3;simp only[ApS.len,Nat.zero_add]at h;exact h
        have hrun:=run_append_nil (P:=P) w t ty e ti z hd hti hz ⟨rx,qx.off,none⟩ qx.m cx nv hnl hcell (by omega) (maxLen_le C2') (by omega);have R:=row_post (m:=m) (L:=L) (y:=ApS.nil.y||qx.y) (e:=e) (len:=0+qx.m) (cap:=grownCap w qx.m 0 e) (z:=z.cells) (hkk (.inl rfl)) hm hf dens_nil hn (by simp[hnl]) zs (by have:=grownCap_ge w qx.m 0 e;omega) (grownCap_le_maxLen w qx.m 0 e C2');have R':OpPost m w L (.osl (ApS.nil.y||qx.y) fresh (0+qx.m)) [(fresh,⟨e,[]++qx.news ti.size,kk⟩)] (addRow m fresh w.heap.size (grownCap w qx.m 0 e)) (.slice (some ⟨w.heap.size,0,none⟩) qx.m (grownCap w qx.m 0 e)) (w.drew.alloc (.cells (nv.toArray++Builtin.zeroCells z.cells (grownCap w qx.m 0 e-qx.m)) e)):=by
         have e0:0+qx.m=qx.m:=Nat.zero_add _;rw[e0]at R ⊢
         simpa[ApS.olds]using R
        exact⟨_,_,hrun,_,R'⟩
       ·rename_i n off len cap;simp only[Option.bind_eq_some_iff]at hqs;obtain⟨b,hb,hqs⟩:=hqs;split at hqs
        ·rename_i hlen;have hlen':len=cap:=Nat.eq_of_beq_eq_true hlen;subst hlen';simp only[sIz]at hqs;subst hqs;simp only[den,mIz]at hs;obtain⟨r,hr,rfl⟩:=hs;obtain⟨r',hr',hat⟩:=hold n (by simp[ApS.rd]) b hb;rw[hr]at hr';simp only[sIz]at hr';subst hr';obtain⟨cv,sp,hcv,hh,hk1⟩:=hat c1;have hkk':=hkk (by cases hnb:b.nums with|false=>exact .inr hnb|true=>exact .inl (idsLts_part (nums_ok hk1 hnb)));have hov:dens m ((b.cells.drop off).take (len*ti.size))=some ((cv.drop off).take (len*ti.size)):=dens_take (dens_drop hcv _) _;have hol:((cv.drop off).take (len*ti.size)).length=len*ti.size:=by rw[dens_length hov];exact C5
         have hrun:=run_append_grow (P:=P) w t ty e ti z hd hti hz ⟨r,off,none⟩ len len _ hol (cells_of hh) ⟨rx,qx.off,none⟩ qx.m cx nv hnl hcell (by omega) (maxLen_le C2) (growslice_fits (by omega) C3);have R:=row_post (m:=m) (L:=L) (y:=(ApS.full n b off len).y||qx.y) (e:=e) (len:=len+qx.m) (cap:=grownCap w (len+qx.m) len e) (z:=z.cells) hkk' hm hf hov hn (by rw[hol,hnl,Nat.add_mul]) zs (grownCap_ge _ _ _ _) (grownCap_le_maxLen _ _ _ _ C2);exact⟨_,_,hrun,_,R⟩
        ·cases hqs
       ·rename_i y' n len;simp only[mIz]at hqs;obtain⟨b,hb,rfl⟩:=hqs;simp only[den,Option.bind_eq_some_iff]at hs;obtain⟨r,hr,hs⟩:=hs;obtain⟨hlc,rfl⟩:=oslV_some.1 hs;obtain⟨r',hr',hat⟩:=hold n (by simp[ApS.rd]) b hb;rw[hr]at hr';simp only[sIz]at hr';subst hr';have c1':sameKind b.k ti.size=true/\Nat.beq b.elem e=true:=by simpa[ApS.ok]using c1
        have hbe:b.elem=e:=Nat.eq_of_beq_eq_true c1'.2;have hbk:b.k= .row ti.size\/b.k= .rown ti.size:=by
         have h:=c1'.1;unfold sameKind at h;split at h
         ·rename_i s0 hs0;rw[Nat.eq_of_beq_eq_true h]at hs0;exact .inl hs0
         ·rename_i s0 hs0;rw[Nat.eq_of_beq_eq_true h]at hs0;exact .inr hs0
         ·cases h
        have hlive:b.live=true:=by unfold Blk.live;rcases hbk with h|h<;>rw[h]
        have hLn:=hL n (by simp[ApS.rd]) b hb hlive;obtain⟨cv,sp,hcv,hh,hk⟩:=hat hlive;have hkk':=hkk (by cases hnb:b.nums with|false=>exact .inr hnb|true=>exact .inl (nums_ok hk hnb));have hk2:(cv++sp).length=m.c r*ti.size/\m.c r<=maxLen:=by
         rcases hbk with h|h<;>rw[h]at hk
         ·exact hk
         ·exact hk.1
        obtain⟨ht,hmax⟩:=hk2;rw[hbe,show b.k.z=(0,0) by rcases hbk with h|h<;>rw[h]<;>rfl]at hh;have hol:cv.length=len*ti.size:=by rw[dens_length hcv];exact C5
        by_cases hroom:len+qx.m<=m.c r
        ·have hfit2:len*ti.size+nv.length<=(cv++sp).toArray.size:=by rw[hnl,<-Nat.add_mul,List.size_toArray,ht];exact Nat.mul_le_mul_right _ hroom
         have hrun:=run_append_room (P:=P) w t ty e ti hd hti r len (m.c r) (cv++sp).toArray hh ⟨rx,qx.off,none⟩ qx.m cx nv hnl hcell hsca hroom hfit2;have hrow:=setRow_heap w r (cv++sp).toArray ((cv++sp).toArray.toList.take (len*ti.size)++nv++(cv++sp).toArray.toList.drop (len*ti.size+nv.length)).toArray e (0,0) hh;have hcells:(cv++sp).toArray.toList.take (len*ti.size)++nv++(cv++sp).toArray.toList.drop (len*ti.size+nv.length)=cv++nv++sp.drop (qx.m*ti.size):=by rw[<-hol,hnl];simp only[List.take_left,List.drop_append];rw[show cv.length+qx.m*ti.size-cv.length=qx.m*ti.size by omega,List.drop_eq_nil_of_le (by omega),List.nil_append]
         rw[hcells]at hrow hrun;have R:=room_post (m:=m) (L:=L) (y:=(ApS.own n b len y').y||qx.y) (b:=b) (w':=w.setRow r (cv++nv++sp.drop (qx.m*ti.size)).toArray) hkk' hm hf hr hLn hcv hn hol hnl ht hmax hroom hrow ⟨rfl,rfl,rfl,by simp,fun k _ hk=>setRow_other w r k _ hk⟩ (by simp);exact⟨_,_,hrun,_,R⟩
        ·have holds:∀(j:Nat)(v:Value),cv[j]? =some v->w.cell? ((⟨r,0,none⟩:Addr).add j)=some v:=by intro j v hj;refine cells_of hh (off:=0) (k:=cv.length) j v ?_;rw[List.drop_zero,List.take_length];exact hj
         have hrun:=run_append_grow (P:=P) w t ty e ti z hd hti hz ⟨r,0,none⟩ len (m.c r) cv hol holds ⟨rx,qx.off,none⟩ qx.m cx nv hnl hcell (by omega) (maxLen_le C2) (growslice_fits (by omega) C3);have R:=row_post (m:=m) (L:=L) (y:=(ApS.own n b len y').y||qx.y) (e:=e) (len:=len+qx.m) (cap:=grownCap w (len+qx.m) (m.c r) e) (z:=z.cells) hkk' hm hf hcv hn (by rw[hol,hnl,Nat.add_mul]) zs (grownCap_ge _ _ _ _) (grownCap_le_maxLen _ _ _ _ C2);exact⟨_,_,hrun,_,R.dead hr hLn⟩
       ·cases hqs
      ·cases h
     ·cases h
    ·cases h
   ·cases h
  ·cases h
 ·cases h
theorem mkC_ok{bytes:Nat}{a b:Int}(h:mkC bytes a b=true):0<=a/\a=b/\(bytes:Int)*a<=281474976710656:=by unfold mkC at h;simpa using h
theorem evMake_ok{t:TypeId}{fresh:Nat}{l c y:SV}{wr:List (Nat×Blk)}{rd:List Nat}{ob:Obs}(h:evMake P t fresh l c=some (y,wr,rd,ob))(ho:ObsOk ob)(hm:NameOk m w)(hnew:∀p∈wr,fresh<=p.1->m p.1=none)
  {vl vc:Value} (hl:den m l=some vl) (hc:den m c=some vc):∃v w',(Instr.makeSlice t vl vc).run P w= .ok v w'/\∃m',OpPost m w L y wr m' v w':=by
 unfold evMake at h;split at h
 ·rename_i e hd;split at h
  ·rename_i ti hti;split at h
   ·rename_i z hz;have fin:∀(kl kc:IntKind)(a b:Int)(x:SV),vl= .int kl a->vc= .int kc b->(mkC ti.bytes a b&&decide (a<=9223372036854775807))=true->m fresh=none->den (addName m fresh w.heap.size) x=some (.slice (some ⟨w.heap.size,0,none⟩) a.toNat a.toNat)->
      ∃v w',(Instr.makeSlice t vl vc).run P w= .ok v w'/\∀kk,(kk= .ex\/kk= .num)->∃m',OpPost m w L x [(fresh,⟨e,ofA (madeCells z.cells (a.toNat*ti.size)),kk⟩)] m' v w':=by
     intro kl kc a b x e1 e2 hk hf hx;subst e1;subst e2;rw[aTz,decide_eq_true_eq]at hk;obtain⟨k1,k2,k3⟩:=mkC_ok hk.1;subst k2;have hrun:=run_make (P:=P) w t e ti z hd hti hz kl kc a a k1 (Int.le_refl _) k3 hk.2;refine⟨_,_,hrun,fun kk hkk=> ?_⟩;have N:=new_post (m:=m) (L:=L) (e:=e) (x:=x) (kk:=kk) (by rcases hkk with h|h;exact .inl h;exact .inr ⟨h,ofA_ids _⟩) hm hf (dens_ofA (m:=m) (madeCells z.cells (a.toNat*ti.size))) hx;exact⟨_,by simpa using N⟩
    split at h
    ·rename_i ka a kb b;split at h
     ·rename_i hk;simp only[sIz,pIz]at h;obtain⟨rfl,rfl,rfl,rfl⟩:=h;simp only[den,sIz]at hl hc;obtain⟨v,w',h1,h2⟩:=fin _ _ _ _ (.sl fresh 0 a.toNat a.toNat) hl.symm hc.symm hk (hnew _ (List.mem_singleton.2 rfl) (Nat.le_refl _)) (by simp[den,addName]);exact⟨v,w',h1,h2 _ (.inl rfl)⟩
     ·cases h
    ·rename_i ka a kb b;simp only[sIz,pIz]at h;obtain⟨rfl,rfl,rfl,rfl⟩:=h;simp only[den,sIz]at hl hc;obtain⟨v,w',h1,h2⟩:=fin _ _ _ _ (.ssl fresh 0 a.toNat a.toNat) hl.symm hc.symm (obs1 ho) (hnew _ (List.mem_singleton.2 rfl) (Nat.le_refl _)) (by simp[den,addName]);exact⟨v,w',h1,h2 _ (.inr rfl)⟩
    ·cases h
   ·cases h
  ·cases h
 ·cases h
theorem evMem_ok{ρ:Operand->SV}{get:Nat->Option Blk}{fresh:Nat}{o:Oper}{x:SV}{wr:List (Nat×Blk)}{rd:List Nat}{ob:Obs}(h:evMem P ρ get fresh o=some (x,wr,rd,ob))(ho:ObsOk ob)(hm:NameOk m w)
  (hnew:∀p∈wr,fresh<=p.1->m p.1=none) (hold:∀n∈rd,∀b,get n=some b->∃r,m n=some r/\BlkAt m w r b) (hL:∀n∈rd,∀b,get n=some b->b.live=true->L n)
  {ρv:Operand->Value} (hρ:∀y∈o.op.operands,den m (ρ y)=some (ρv y)) :
  OpGoes P o ρv w fun v w'=>∃m',OpPost m w L x wr m' v w':=by
 unfold evMem at h;split at h
 ·rename_i elem hop;split at h
  ·rename_i ti hti;split at h
   ·rename_i z hz;simp only[sIz,pIz]at h;obtain⟨rfl,rfl,rfl,rfl⟩:=h;have hf:m fresh=none:=hnew _ (List.mem_singleton.2 rfl) (Nat.le_refl _);refine OpGoes.value (v:= .pointer (some ⟨w.heap.size,0,none⟩)) (w':=w.alloc (.cells z.cells elem)) ?_ ⟨addName m fresh w.heap.size,?_⟩
    ·simp[execOp,hop,Instr.alloc,zeroValue,typeInfo,hti,hz,newVar,newRow]
    ·have:=new_post (kk:= .ex) (L:=L) (e:=elem) (hkk:= .inl rfl) (x:= .p fresh 0) (v:= .pointer (some ⟨w.heap.size,0,none⟩)) hm hf (dens_ofA (m:=m) z.cells) (by simp[den,addName])
     simpa using this
   ·cases h
  ·cases h
 ·rename_i elem y hop;simp only[sIz,pIz]at h;obtain⟨rfl,rfl,rfl,rfl⟩:=h;have hf:m fresh=none:=hnew _ (List.mem_singleton.2 rfl) (Nat.le_refl _);have hy:=hρ y (by rw[hop];simp[Op.operands]);refine OpGoes.value (v:= .pointer (some ⟨w.heap.size,0,none⟩)) (w':=w.alloc (.cells (ρv y).cells elem)) ?_ ⟨addName m fresh w.heap.size,?_⟩
  ·simp[execOp,hop,Instr.box,newVar,newRow]
  ·have:=new_post (kk:= .ex) (L:=L) (e:=elem) (hkk:= .inl rfl) (x:= .p fresh 0) (v:= .pointer (some ⟨w.heap.size,0,none⟩)) hm hf (cells_ok hy) (by simp[den,addName])
   simpa using this
 ·rename_i t len parts hop;split at h
  ·rename_i elem hd;split at h
   ·rename_i ti hti;split at h
    ·rename_i z hz;have hsz:sizeT P elem=some ti.size:=by simp[sizeT,hti]
     split at h
     ·rename_i hle;simp only[mIz,pIz]at h;obtain⟨cells,hcells,rfl,rfl,rfl,rfl⟩:=h;have hf:m fresh=none:=hnew _ (List.mem_singleton.2 rfl) (Nat.le_refl _);have h1:=pairs_ok (m:=m) (ρ:=ρ) (ρv:=ρv) parts.toList fun q hq=>hρ q.2 (by rw[hop];simp only[Op.operands,List.mem_toArray,List.mem_map];exact⟨q,hq,rfl⟩);obtain⟨ov,h2,h3⟩:=fillS_ok (vparts:=parts.toList.map fun q=>(q.1,ρv q.2)) (by simp) h1 hcells (dens_ofA _);refine OpGoes.value (v:= .slice (some ⟨w.heap.size,0,none⟩) len len) (w':=w.alloc (.cells ov.toArray elem)) ?_ ⟨addName m fresh w.heap.size,?_⟩
      ·have h3':Instr.fill (fun i=>some (i*ti.size,ti.size)) ((Array.range (len*ti.size)).map (z.cells[· %z.cells.size]!)) (parts.toList.map fun q=>(q.1,ρv q.2))=some ov.toArray:=by rw[Array.toArray_toList]at h3;exact h3
       simp only[execOp,hop,Instr.buildSlice,Sem.run_bind,run_underlying hd,Result.andThen_ok,run_sizeOf hsz];rw[if_neg (by omega)];rw[if_neg hle.2];simp[h3',newRow,zeroValue,typeInfo,hti,hz]
      ·exact new_post (e:=elem) (x:= .sl fresh 0 len len) (.inl rfl) hm hf h2 (by simp[den,addName])
     ·split at h
      ·rename_i hparts _;simp only[sIz,pIz]at h;obtain⟨rfl,rfl,rfl,rfl⟩:=h;have hp:parts= #[]:=by apply Array.ext';simpa using hparts
       subst hp;have hf:m fresh=none:=hnew _ (List.mem_singleton.2 rfl) (Nat.le_refl _);refine OpGoes.value (v:= .slice (some ⟨w.heap.size,0,none⟩) 0 0) (w':=w.alloc (.cells #[] elem)) ?_ ⟨addName m fresh w.heap.size,?_⟩
       ·simp[execOp,hop,Instr.buildSlice,run_underlying hd,run_sizeOf hsz,Instr.fill,newRow];rw[show Array.range 0= #[]from Array.eq_empty_of_size_eq_zero (by simp),Array.map_empty]
       ·have:=new_post (kk:= .ex) (L:=L) (e:=elem) (hkk:= .inl rfl) (x:= .sl fresh 0 0 0) (v:= .slice (some ⟨w.heap.size,0,none⟩) 0 0) hm hf (dens_nil (m:=m)) (by simp[den,addName])
        simpa using this
      ·cases h
    ·cases h
   ·cases h
  ·cases h
 ·rename_i t a hop;have ha:=hρ a (by rw[hop];simp[Op.operands]);split at h
  ·rename_i n off hn;split at h
   ·rename_i b hb;simp only[mIz,pIz]at h;obtain⟨y,hy,rfl,rfl,rfl,rfl⟩:=h;obtain⟨r,hr,hat⟩:=hold n (by simp) b hb;obtain⟨v,hv,hrun⟩:=loadL_ok hy hat;rw[hn]at ha;simp only[den,hr,Option.map_some,sIz]at ha;refine OpGoes.value (v:=v) (w':=w) ?_ ⟨m,OpPost.pure hm hv⟩;simp only[execOp,hop,<-ha,Instr.loadAt,Sem.run_bind,run_sureAddr,Result.andThen_ok,hrun];rfl
   ·cases h
  ·rename_i n off hn;split at h
   ·rename_i b hb;simp only[mIz,pIz]at h;obtain⟨⟨y,oy⟩,hy,rfl,rfl,rfl,rfl⟩:=h;obtain⟨r,hr,hat⟩:=hold n (by simp) b hb;obtain⟨v,hv,hrun⟩:=loadY_ok hy ho hat;rw[hn]at ha;simp only[den,hr,Option.map_some,sIz]at ha;refine OpGoes.value (v:=v) (w':=w) ?_ ⟨m,OpPost.pure hm hv⟩;simp only[execOp,hop,<-ha,Instr.loadAt,Sem.run_bind,run_sureAddr,Result.andThen_ok,hrun];rfl
   ·cases h
  ·cases h
 ·rename_i t a y hop;have ha:=hρ a (by rw[hop];simp[Op.operands]);have hy:=hρ y (by rw[hop];simp[Op.operands]);split at h
  ·rename_i n off hn;split at h
   ·rename_i b hb;split at h
    ·rename_i hc;obtain⟨c1,c2,c3,c4,c5⟩:=hc;simp only[sIz,pIz]at h;obtain⟨rfl,rfl,rfl,rfl⟩:=h;obtain⟨r,hr,hat⟩:=hold n (by simp) b hb;rw[hn]at ha;simp only[den,hr,Option.map_some,sIz]at ha;exact(store_post hop hm hr hat (hL n (by simp) b hb c4) ha.symm hy c1 c2 c3 c4 c5).mono fun v w' k=>⟨m,k⟩
    ·cases h
   ·cases h
  ·rename_i n off hn;split at h
   ·rename_i b hb;split at h
    ·rename_i hc;obtain⟨c1,c3,c4,c5⟩:=hc;simp only[sIz,pIz]at h;obtain⟨rfl,rfl,rfl,rfl⟩:=h;obtain⟨r,hr,hat⟩:=hold n (by simp) b hb;rw[hn]at ha;simp only[den,hr,Option.map_some,sIz]at ha;exact(store_post hop hm hr hat (hL n (by simp) b hb c4) ha.symm hy c1 (oTz (obs1 ho)) c3 c4 c5).mono fun v w' k=>⟨m,k⟩
    ·cases h
   ·cases h
  ·cases h
 ·rename_i t l c hop;obtain⟨v,w',hrun,m',hp⟩:=evMake_ok (L:=L) h ho hm hnew (hρ l (by rw[hop];simp[Op.operands])) (hρ c (by rw[hop];simp[Op.operands]));refine OpGoes.value (v:=v) (w':=w') ?_ ⟨m',hp⟩;simp only[execOp,hop,Sem.run_bind,hrun];rfl
 ·rename_i c hop;split at h
  ·rename_i hcal;split at h
   ·rename_i s y t t' hargs htys;split at h
    ·rename_i htt;have htt':t=t':=Nat.eq_of_beq_eq_true htt;subst htt';have hca:c.args= #[s,y]:=Array.ext' (by simpa using hargs);have hct:c.argTypes= #[t,t]:=Array.ext' (by simpa using htys);have hop2:∀q∈c.args,q∈o.op.operands:=fun q hq=>by rw[hop];simp only[Op.operands,Call.operands,Array.mem_append];right;exact hq
     obtain⟨v,w',hrun,m',hp⟩:=evAppend_ok (L:=L) h ho hm hnew hold hL (hρ s (hop2 s (by simp[hca]))) (hρ y (hop2 y (by simp[hca]))) o.type;refine OpGoes.value (v:=v) (w':=w') ?_ ⟨m',hp⟩;simp only[execOp,hop,resolve,hcal,hca,hct,invoke,builtin,Sem.run_bind,Sem.run_pure,Result.andThen_ok,List.map_toArray,List.map_cons,List.map_nil,hrun]
    ·cases h
   ·cases h
  ·cases h
 ·cases h
end
mutual
def ren(ρ:Nat->Option Nat):SV->Option SV
 | .p n off=>(ρ n).map fun k=> .p k off
 | .sp n off=>(ρ n).map fun k=> .sp k off
 | .sl n off len cap=>(ρ n).map fun k=> .sl k off len cap
 | .ssl n off len cap=>(ρ n).map fun k=> .ssl k off len cap
 | .osl y n len=>(ρ n).map fun k=> .osl y k len
 | .fn f first cap=>(rens ρ first).bind fun x=>(rens ρ cap).map fun y=> .fn f x y
 | .agg l=>(rens ρ l).map .agg
 | .tup l=>(rens ρ l).map .tup
 | .b c=>some (.b c)
 | .i k n=>some (.i k n)
 | .si k n=>some (.si k n)
 | .f x=>some (.f x)
 | .fl x=>some (.fl x)
 | .np=>some .np
 | .o v=>some (.o v)
def rens(ρ:Nat->Option Nat):List SV->Option (List SV)
 | []=>some []
 |x::l=>(ren ρ x).bind fun y=>(rens ρ l).map fun r=>y::r
end
mutual
def idsOf:SV->List Nat
 | .p n _=>[n]
 | .sp n _=>[n]
 | .sl n _ _ _=>[n]
 | .ssl n _ _ _=>[n]
 | .osl _ n _=>[n]
 | .fn _ first cap=>idsOfs first++idsOfs cap
 | .agg l=>idsOfs l
 | .tup l=>idsOfs l
 |_=>[]
def idsOfs:List SV->List Nat
 | []=>[]
 |x::l=>idsOf x++idsOfs l
end
section
variable {m m':Nms} {ρ:Nat->Option Nat}
mutual
theorem ren_ok(h:∀n k,ρ n=some k->∀r,m n=some r->m' k=some r/\m'.c r=m.c r):∀{x y:SV}{v:Value},ren ρ x=some y->den m x=some v->den m' y=some v
 | .p n off, y, v, h1, h2 => by simp only[ren,mIz]at h1;obtain⟨k,hk,rfl⟩:=h1;simp only[den,mIz]at h2 ⊢;obtain⟨r,hr,e⟩:=h2;exact⟨r,(h n k hk r hr).1,e⟩
 | .sp n off, y, v, h1, h2 => by simp only[ren,mIz]at h1;obtain⟨k,hk,rfl⟩:=h1;simp only[den,mIz]at h2 ⊢;obtain⟨r,hr,e⟩:=h2;exact⟨r,(h n k hk r hr).1,e⟩
 | .sl n off len cap, y, v, h1, h2 => by simp only[ren,mIz]at h1;obtain⟨k,hk,rfl⟩:=h1;simp only[den,mIz]at h2 ⊢;obtain⟨r,hr,e⟩:=h2;exact⟨r,(h n k hk r hr).1,e⟩
 | .ssl n off len cap, y, v, h1, h2 => by simp only[ren,mIz]at h1;obtain⟨k,hk,rfl⟩:=h1;simp only[den,mIz]at h2 ⊢;obtain⟨r,hr,e⟩:=h2;exact⟨r,(h n k hk r hr).1,e⟩
 | .osl q n len, y, v, h1, h2 => by simp only[ren,mIz]at h1;obtain⟨k,hk,rfl⟩:=h1;simp only[den,Option.bind_eq_some_iff]at h2 ⊢;obtain⟨r,hr,e⟩:=h2;exact⟨r,(h n k hk r hr).1,by rw[(h n k hk r hr).2];exact e⟩
 | .fn f first cap, y, v, h1, h2 => by simp only[ren,Option.bind_eq_some_iff,mIz]at h1;obtain⟨a,ha,b,hb,rfl⟩:=h1;simp only[den,Option.bind_eq_some_iff,mIz]at h2 ⊢;obtain⟨x,hx,z,hz,e⟩:=h2;exact⟨x,rens_ok h ha hx,z,rens_ok h hb hz,e⟩
 | .agg l, y, v, h1, h2 => by simp only[ren,mIz]at h1;obtain⟨a,ha,rfl⟩:=h1;simp only[den,mIz]at h2 ⊢;obtain⟨x,hx,e⟩:=h2;exact⟨x,rens_ok h ha hx,e⟩
 | .tup l, y, v, h1, h2 => by simp only[ren,mIz]at h1;obtain⟨a,ha,rfl⟩:=h1;simp only[den,mIz]at h2 ⊢;obtain⟨x,hx,e⟩:=h2;exact⟨x,rens_ok h ha hx,e⟩
 | .b c,y,v,h1,h2=>by simp only[ren,sIz]at h1;subst h1;simpa[den]using h2
 | .i k n,y,v,h1,h2=>by simp only[ren,sIz]at h1;subst h1;simpa[den]using h2
 | .si k n,y,v,h1,h2=>by simp only[ren,sIz]at h1;subst h1;simpa[den]using h2
 | .f x,y,v,h1,h2=>by simp only[ren,sIz]at h1;subst h1;simpa[den]using h2
 | .fl x,y,v,h1,h2=>by simp only[ren,sIz]at h1;subst h1;simpa[den]using h2
 | .np,y,v,h1,h2=>by simp only[ren,sIz]at h1;subst h1;simpa[den]using h2
 | .o u,y,v,h1,h2=>by simp only[ren,sIz]at h1;subst h1;simpa[den]using h2
theorem rens_ok(h:∀n k,ρ n=some k->∀r,m n=some r->m' k=some r/\m'.c r=m.c r):∀{l y:List SV}{vs:List Value},rens ρ l=some y->dens m l=some vs->dens m' y=some vs
 | [],y,vs,h1,h2=>by simp only[rens,sIz]at h1;subst h1;simpa[dens]using h2
 | x :: l, y, vs, h1, h2 => by simp only[rens,Option.bind_eq_some_iff,mIz]at h1;obtain⟨a,ha,b,hb,rfl⟩:=h1;obtain⟨v,us,c,d,rfl⟩:=dens_cons_some.1 h2;exact dens_cons (ren_ok h ha c) (rens_ok h hb d)
end
end
def Blk.ids(b:Blk):List Nat:=match b.k with
 | .num=>[]
 | .rown _=>[]
 | .ro _=>[]
 |_=>idsOfs b.cells
def Blk.ren(ρ:Nat->Option Nat)(b:Blk):Option (List SV):=match b.k with
 | .num=>some b.cells
 | .rown _=>some b.cells
 | .ro _=>some b.cells
 |_=>rens ρ b.cells
theorem Blk.ren_ok{m m':Nms}{ρ:Nat->Option Nat}{b:Blk}{cs:List SV}{r:Nat}{cv sp:List Value}(h:∀n k,ρ n=some k->∀r,m n=some r->m' k=some r/\m'.c r=m.c r)(hb:b.ren ρ=some cs)(hd:dens m b.cells=some cv)(hk:kOk m r b.cells cv sp b.k)(hc:m'.c r=m.c r):dens m' cs=some cv/\kOk m' r cs cv sp b.k:=by
 unfold Blk.ren at hb;cases hbk:b.k<;>rw[hbk]at hb hk
 ·exact⟨rens_ok h hb hd,hk⟩
 ·refine⟨rens_ok h hb hd,?_⟩;simp only[kOk]at hk ⊢;rw[hc];exact hk
 ·exact⟨rens_ok h hb hd,trivial⟩
 ·simp only[sIz]at hb;subst hb;exact⟨by rw[<-hd];exact dens_nums hk.2,hk⟩
 ·simp only[sIz]at hb;subst hb;refine⟨by rw[<-hd];exact dens_nums hk.2,?_⟩;simp only[kOk]at hk ⊢;rw[hc];exact hk
 ·simp only[sIz]at hb;subst hb;exact⟨by rw[<-hd];exact dens_nums hk.2,hk⟩
def reach(get:Nat->Option Blk):Nat->List Nat->List Nat->List Nat
 |0,_,acc=>acc
 |_+1,[],acc=>acc
 | f + 1, n :: todo, acc =>
   if acc.contains n then reach get f todo acc
   else match get n with
    |some b=>reach get f (b.ids++todo) (acc++ [n])
    |none=>reach get f todo acc
def posFrom:List Nat->Nat->Nat->Option Nat
 | [],_,_=>none
 |a::l,j,n=>if a=n then some j else posFrom l (j+1) n
def posOf(ids:List Nat)(n:Nat):Option Nat:=posFrom ids 0 n
theorem posFrom_ok:∀{ids:List Nat}{j n k:Nat},posFrom ids j n=some k->j<=k/\ids[k-j]? =some n
 | [],j,n,k,h=>by simp[posFrom]at h
 | a :: l, j, n, k, h => by
   unfold posFrom at h;split at h
   ·rename_i e;simp only[sIz]at h;subst h;simp[e]
   ·obtain⟨h1,h2⟩:=posFrom_ok h;refine⟨by omega,?_⟩;rw[show k-j=(k-(j+1))+1 from by omega]
    simpa using h2
theorem posOf_ok{ids:List Nat}{n k:Nat}(h:posOf ids n=some k):ids[k]? =some n:=by
 have:=(posFrom_ok h).2
 simpa using this
def nodupB:List Nat->Bool
 | []=>true
 |a::l=> !l.contains a&&nodupB l
theorem nodupB_ok:∀{l:List Nat},nodupB l=true->∀{i j n:Nat},l[i]? =some n->l[j]? =some n->i=j
 | [],_,i,j,n,h1,_=>by simp at h1
 | a :: l, h, i, j, n, h1, h2 => by
   simp only[nodupB,aTz,Bool.not_eq_true',List.contains_eq_mem,decide_eq_false_iff_not]at h;cases i with
   | zero =>
     cases j with
     |zero=>rfl
     | succ j =>
       simp at h1 h2;subst h1;exact absurd (List.mem_of_getElem? h2) h.1
   | succ i =>
     cases j with
     | zero =>
       simp at h1 h2;subst h2;exact absurd (List.mem_of_getElem? h1) h.1
     | succ j =>
       simp at h1 h2;rw[nodupB_ok h.2 h1 h2]
abbrev CallF:=FuncId->List SV->List Blk->Dec->Option (SV×List Blk×Dec×Obs)
def liveM(M:List Blk)(n:Nat):Prop:=∃b,M[n]? =some b/\b.live=true
structure MemAt (m:Nms) (w:World) (M:List Blk):Prop where
 ok:NameOk m w
 inj:∀n n' r,liveM M n->liveM M n'->m n=some r->m n'=some r->n=n'
 blk:∀n b,M[n]? =some b->∃r,m n=some r/\BlkAt m w r b
 dom:∀n r,m n=some r->n<M.length
structure GoesL (m:Nms) (L:Nat->Prop) (w:World) (m':Nms) (L':Nat->Prop) (w':World):Prop where
 ext:Ext m m'
 fr:Fr (fun r=>∃n,m n=some r/\L n) w w'
 new:∀n r,m' n=some r->m n=some r\/w.heap.size<=r\/∃q,m q=some r/\L q
 dd:∀n r,m n=some r->L' n->L n
theorem GoesL.refl(m:Nms)(L:Nat->Prop)(w:World):GoesL m L w m L w:=⟨Ext.refl m,Fr.refl _ _,fun _ _ h=> .inl h,fun _ _ _ h=>h⟩
theorem GoesL.trans{a b c:Nms}{A B C:Nat->Prop}{u v w:World}(h:GoesL a A u b B v)(k:GoesL b B v c C w):GoesL a A u c C w:=by
 refine⟨h.ext.trans k.ext,h.fr.trans k.fr ?_,?_,?_⟩
 ·rintro r hr ⟨n,hn,hl⟩;rcases h.new n r hn with h1|h1|h1
  ·exact⟨n,h1,h.dd n r h1 hl⟩
  ·omega
  ·exact h1
 ·intro n r hn;rcases k.new n r hn with h1|h1|⟨q,hq,hl⟩
  ·exact h.new n r h1
  ·exact .inr (.inl (Nat.le_trans h.fr.size h1))
  ·rcases h.new q r hq with h1|h1|h1
   ·exact .inr (.inr ⟨q,h1,h.dd q r h1 hl⟩)
   ·exact .inr (.inl h1)
   ·exact .inr (.inr h1)
 ·intro n r hn hl;exact h.dd n r hn (k.dd n r (h.ext.n n r hn) hl)
abbrev Goes(m:Nms)(M:List Blk)(w:World)(m':Nms)(M':List Blk)(w':World):Prop:=GoesL m (liveM M) w m' (liveM M') w'
theorem Goes.refl(m:Nms)(M:List Blk)(w:World):Goes m M w m M w:=GoesL.refl m (liveM M) w
theorem Goes.trans{a b c:Nms}{A B C:List Blk}{u v w:World}(h:Goes a A u b B v)(k:Goes b B v c C w):Goes a A u c C w:=GoesL.trans h k
structure CallPost (m:Nms) (w:World) (M:List Blk) (x:SV) (M':List Blk) (m':Nms) (v:Value) (w':World):Prop where
 go:Goes m M w m' M' w'
 val:den m' x=some v
 mem:MemAt m' w' M'
 len:M.length<=M'.length
def CallOk(P:Program)(call:CallF):Prop:=
 ∀g args M ds x M' ds' ob,call g args M ds=some (x,M',ds',ob)->ObsOk ob->∀m w vs,dens m args=some vs->MemAt m w M->
  Calls P g vs.toArray w fun e w'=>∃m' v,e= .returned v/\CallPost m w M x M' m' v w'
def backOf(ids:List Nat)(fresh n':Nat)(j:Nat):Option Nat:=
 if j<ids.length then ids[j]? else if j<n' then some (fresh+(j-ids.length))else none
def backAll(ids:List Nat)(fresh n':Nat)(x:SV)(M':List Blk):Option (SV×List (Nat×Blk)):=
 (ren (backOf ids fresh n') x).bind fun y=>
  ((List.range n').mapM fun j=>(M'[j]?).bind fun b=>(b.ren (backOf ids fresh n')).bind fun cs=>(backOf ids fresh n' j).map fun id=>(id,(⟨b.elem,cs,b.k⟩:Blk))).map fun wr=>(y,wr)
def sameS:SV->SV->Bool
 | .p a b,.p c d=>Nat.beq a c&&Nat.beq b d
 | .np,.np=>true
 | .si .u32 _,.si .u32 _=>true
 |_,_=>false
def sameO:SV->SV->Obs
 | .si .u32 n,.si .u32 m=>[(decide (n=m),true)]
 |_,_=>[]
def sameL:List SV->List SV->Bool
 | [],[]=>true
 |x::l,y::r=>sameS x y&&sameL l r
 |_,_=>false
def sameLO:List SV->List SV->Obs
 |x::l,y::r=>sameO x y++sameLO l r
 |_,_=>[]
theorem sameS_ok{x y:SV}(h:sameS x y=true)(ho:ObsOk (sameO x y)):x=y:=by
 unfold sameS at h;split at h
 ·simp only[aTz]at h;rw[Nat.eq_of_beq_eq_true h.1,Nat.eq_of_beq_eq_true h.2]
 ·rfl
 ·rename_i n m;have:=ho (decide (n=m),true) (List.mem_cons_self ..);rw[oTz this]
 ·cases h
theorem sameL_ok:∀{x y:List SV},sameL x y=true->ObsOk (sameLO x y)->x=y
 | [],[],_,_=>rfl
 | x :: l, y :: r, h, ho => by simp only[sameL,aTz]at h;unfold sameLO at ho;rw[sameS_ok h.1 ho.left,sameL_ok h.2 ho.right]
 | [],_::_,h,_=>by cases h
 |_::_,[],h,_=>by cases h
def exK:BK->Bool
 | .ex=>true
 |_=>false
theorem exK_ok{k:BK}(h:exK k=true):k= .ex:=by cases k<;>first|rfl|cases h
def sameBlk(a b:Blk):Bool:=exK a.k&&(exK b.k&&(sameL a.cells b.cells&&Nat.beq a.elem b.elem))
theorem sameBlk_ok{a b:Blk}(h:sameBlk a b=true)(ho:ObsOk (sameLO a.cells b.cells)):a=b/\b.k= .ex:=by simp only[sameBlk,aTz]at h;obtain⟨ea,ca,ka⟩:=a;obtain⟨eb,cb,kb⟩:=b;have h1:ka= .ex:=exK_ok h.1;have h2:kb= .ex:=exK_ok h.2.1;have h3:ea=eb:=Nat.eq_of_beq_eq_true h.2.2.2;have h4:ca=cb:=sameL_ok h.2.2.1 ho;subst h1;subst h2;subst h3;subst h4;exact⟨rfl,rfl⟩
def sameW(ids:List Nat)(get:Nat->Option Blk)(p:Nat×Blk):Bool:=
 ids.any (Nat.beq p.1)&&match get p.1 with
  |some b=>sameBlk b p.2
  |none=>false
def keepW(ids:List Nat)(get:Nat->Option Blk)(wr:List (Nat×Blk)):List (Nat×Blk):=wr.filter fun p=> !sameW ids get p
def sameWO(ids:List Nat)(get:Nat->Option Blk)(p:Nat×Blk):Obs:=bif sameW ids get p then match get p.1 with
 |some b=>sameLO b.cells p.2.cells
 |none=>[]else[]
def keepO(ids:List Nat)(get:Nat->Option Blk):List (Nat×Blk)->Obs
 | []=>[]
 |p::l=>sameWO ids get p++keepO ids get l
theorem keepO_in{ids:List Nat}{get:Nat->Option Blk}:∀{wr:List (Nat×Blk)}{p:Nat×Blk},p∈wr->ObsOk (keepO ids get wr)->ObsOk (sameWO ids get p)
 | q :: l, p, h, ho => by
   unfold keepO at ho;rcases List.mem_cons.1 h with rfl|h
   ·exact ho.left
   ·exact keepO_in h ho.right
theorem sameW_ok{ids:List Nat}{get:Nat->Option Blk}{p:Nat×Blk}(h:sameW ids get p=true)(ho:ObsOk (sameWO ids get p)):p.1∈ids/\get p.1=some p.2/\p.2.k= .ex:=by
 unfold sameWO at ho;rw[h,cT]at ho;simp only[sameW,aTz]at h;obtain⟨h1,h2⟩:=h;refine⟨?_,?_⟩
 ·obtain⟨n,hn,he⟩:=List.any_eq_true.1 h1;rw[Nat.eq_of_beq_eq_true he];exact hn
 ·split at h2
  ·rename_i b hb;rw[hb]at ho;obtain⟨e,k⟩:=sameBlk_ok h2 ho;exact⟨by rw[hb,e],k⟩
  ·cases h2
theorem OpPost.keep{m m':Nms}{w w':World}{L:Nat->Prop}{y:SV}{wr:List (Nat×Blk)}{v:Value}{ids:List Nat}{get:Nat->Option Blk}(h:OpPost m w L y wr m' v w')(ho:ObsOk (keepO ids get wr))
  (hold:∀n∈ids,∀b,get n=some b->∃r,m n=some r/\BlkAt m w r b):OpPost m w L y (keepW ids get wr) m' v w':=by
 have hs:∀p∈wr,p∈keepW ids get wr\/sameW ids get p=true:=by
  intro p hp;cases hc:sameW ids get p
  ·exact .inl (List.mem_filter.2 ⟨hp,by rw[hc];rfl⟩)
  ·exact .inr rfl
 have hin:∀{p},p∈keepW ids get wr->p∈wr:=fun hp=>(List.mem_filter.1 hp).1;refine⟨h.ext,h.val,fun p hp=>h.blk p (hin hp),⟨h.fr.os,h.fr.tape,h.fr.output,h.fr.size,fun r hr hx=> ?_⟩,fun n r hr=> ?_,h.ok,fun p hp hl r hr=> ?_,fun p hp p' hp'=>h.uni p (hin hp) p' (hin hp'),fun p hp=>h.dd p (hin hp)⟩
 ·by_cases hk:∃p∈wr,m p.1=some r/\L p.1
  ·obtain⟨p,hp,hm,hl⟩:=hk;rcases hs p hp with h1|h1
   ·exact absurd ⟨p,h1,hm,hl⟩ hx
   ·obtain⟨h2,h3,h4⟩:=sameW_ok h1 (keepO_in hp ho);obtain⟨q,hq,hb⟩:=hold p.1 h2 p.2 h3;obtain⟨q',hq',hb'⟩:=h.blk p hp;rw[h.ext.n p.1 q hq]at hq';rw[hm]at hq;simp only[sIz]at hq hq';subst hq';subst hq;obtain⟨n,b⟩:=p;obtain⟨e,cs,k⟩:=b;simp only at h4;subst h4;obtain⟨cv,h5,h6⟩:=hb.ex;obtain⟨cv',h7,h8⟩:=hb'.ex;rw[dens_ext h.ext h5]at h7;rw[h6,h8,Option.some.inj h7]
  ·exact h.fr.block r hr hk
 ·rcases h.new n r hr with h1|⟨⟨p,hp,he⟩,h1⟩
  ·exact .inl h1
  ·rcases hs p hp with h2|h2
   ·exact .inr ⟨⟨p,h2,he⟩,h1⟩
   ·obtain⟨h3,h4,_⟩:=sameW_ok h2 (keepO_in hp ho);obtain⟨q,hq,_⟩:=hold p.1 h3 p.2 h4;have h5:=h.ext.n p.1 q hq;rw[he]at hq h5;rw[hr]at h5;left;rw[hq,<-h5]
 ·rcases h.src p (hin hp) hl r hr with h1|⟨q,hq,h1,h2⟩
  ·exact .inl h1
  ·rcases hs q hq with h3|h3
   ·exact .inr ⟨q,h3,h1,h2⟩
   ·obtain⟨_,_,h4⟩:=sameW_ok h3 (keepO_in hq ho);have hql:q.2.live=true:=by unfold Blk.live;rw[h4]
    have e:=h.uni p (hin hp) q hq hl hql r hr (h.ext.n _ _ h1);exact .inr ⟨p,hp,by rw[e];exact h1,by rw[e];exact h2⟩
def evCall(call:CallF)(get:Nat->Option Blk)(fresh:Nat)(ds:Dec)(g:FuncId)(args:List SV):Option (SV×List (Nat×Blk)×List Nat×Dec×Obs):=
 let ids:=reach get 1000 (idsOfs args) []
 if nodupB ids&&ids.all fun n=>Nat.blt n fresh then
  match rens (posOf ids) args,(ids.mapM fun n=>(get n).bind fun b=>(b.ren (posOf ids)).map fun cs=>(⟨b.elem,cs,b.k⟩:Blk))with
  | some args', some blks =>
    match call g args' blks ds with
    | some (x, M', ds', ob) =>
      match backAll ids fresh ids.length x M' with
      |some (y,wr)=>some (y,keepW ids get wr,ids,ds',keepO ids get wr++ob)
      |none=>if Nat.ble ids.length M'.length then(backAll ids fresh M'.length x M').map fun q=>(q.1,keepW ids get q.2,ids,ds',keepO ids get q.2++ob)else none
    |none=>none
  |_,_=>none
 else none
theorem mapM_get{α β:Type}{f:α->Option β}:∀{l:List α}{r:List β},l.mapM f=some r->r.length=l.length/\∀(j:Nat)(a:α),l[j]? =some a->∃b,f a=some b/\r[j]? =some b
 | [],r,h=>by simp at h;subst h;simp
 | x :: l, r, h => by
   simp only[List.mapM_cons,Option.bind_eq_bind,Option.bind_eq_some_iff,pure,sIz]at h;obtain⟨b,hb,bs,hbs,rfl⟩:=h;obtain⟨h1,h2⟩:=mapM_get hbs;refine⟨by simp[h1],?_⟩;intro j a ha;cases j with
   |zero=>simp at ha;subst ha;exact⟨b,hb,by simp⟩
   |succ j=>simp at ha;obtain⟨c,hc,hr⟩:=h2 _ _ ha;exact⟨c,hc,by simpa using hr⟩
theorem mapM_mem{α β:Type}{f:α->Option β}:∀{l:List α}{r:List β},l.mapM f=some r->∀{b:β},b∈r->∃a∈l,f a=some b
 | [],r,h,b,hb=>by simp at h;subst h;simp at hb
 | x :: l, r, h, b, hb => by
   simp only[List.mapM_cons,Option.bind_eq_bind,Option.bind_eq_some_iff,pure,sIz]at h;obtain⟨c,hc,bs,hbs,rfl⟩:=h;rcases List.mem_cons.1 hb with rfl|hb
   ·exact⟨x,by simp,hc⟩
   ·obtain⟨a,ha,hf⟩:=mapM_mem hbs hb;exact⟨a,by simp[ha],hf⟩
section
variable {P:Program} {m:Nms} {w:World} {L:Nat->Prop}
def backName(m msub':Nms)(k fresh n' size:Nat):Nms:=
 ⟨fun n=>match m n with
  |some r=>some r
  |none=>if fresh<=n/\n-fresh+k<n' then msub' (n-fresh+k)else none,
  fun r=>if r<size then m.c r else msub'.c r⟩
def subName(m:Nms)(ids:List Nat):Nms:=⟨fun k=>(ids[k]?).bind m.f,m.c⟩
theorem backAll_ok{ids:List Nat}{fresh n':Nat}{x y:SV}{M M':List Blk}{wr:List (Nat×Blk)}{msub':Nms}{v:Value}{w':World}
  (hb:backAll ids fresh n' x M'=some (y,wr)) (hm:NameOk m w) (hk:ids.length<=n')
  (hids:∀n∈ids,∃r,m n=some r) (hlv:∀(j n:Nat),ids[j]? =some n->liveM M j->L n)
  (hc:CallPost (subName m ids) w M x M' msub' v w') (hnew:∀p∈wr,fresh<=p.1->m p.1=none) :
  ∃m',OpPost m w L y wr m' v w':=by
 unfold backAll at hb;simp only[Option.bind_eq_some_iff,mIz,pIz]at hb;obtain⟨y',hy,wr',hwr,rfl,rfl⟩:=hb;have hwr2:∀p∈wr',∃j b cs id,j<n'/\M'[j]? =some b/\b.ren (backOf ids fresh n')=some cs/\backOf ids fresh n' j=some id/\p=(id,⟨b.elem,cs,b.k⟩):=by intro p hp;obtain⟨j,hj,hf⟩:=mapM_mem hwr hp;simp only[Option.bind_eq_some_iff,mIz]at hf;obtain⟨b,hb,cs,hcs,id,hid,he⟩:=hf;exact⟨j,b,cs,id,by simpa using hj,hb,hcs,hid,he.symm⟩
 have hwr3:∀j,j<n'->∃p∈wr',backOf ids fresh n' j=some p.1:=by intro j hj;obtain⟨p,hf,hp⟩:=(mapM_get hwr).2 j j (by simp[hj]);simp only[Option.bind_eq_some_iff,mIz]at hf;obtain⟨b,hb,cs,hcs,id,hid,he⟩:=hf;exact⟨p,List.mem_of_getElem? hp,by rw[hid,<-he]⟩
 have hnone:∀j,ids.length<=j->j<n'->m (fresh+(j-ids.length))=none:=by intro j h1 h2;obtain⟨p,hp,he⟩:=hwr3 j h2;unfold backOf at he;rw[if_neg (by omega),if_pos h2]at he;simp only[sIz]at he;rw[he];exact hnew p hp (by omega)
 have hsub:∀k r,subName m ids k=some r->∃n,ids[k]? =some n/\m n=some r:=by intro k r h;unfold subName at h;simp only[Option.bind_eq_some_iff]at h;exact h
 have hlt:∀k r,subName m ids k=some r->k<ids.length:=by
  intro k r h;obtain⟨n,h1,_⟩:=hsub k r h;rcases Nat.lt_or_ge k ids.length with h'|h'
  ·exact h'
  ·rw[List.getElem?_eq_none h']at h1;cases h1
 -- capacities
 have hcap:∀j r,msub' j=some r->(backName m msub' ids.length fresh n' w.heap.size).c r=msub'.c r:=by
  intro j r hr;show(if r<w.heap.size then m.c r else msub'.c r)=_;by_cases hrl:r<w.heap.size
  ·rw[if_pos hrl];have old:∀q,subName m ids q=some r->m.c r=msub'.c r:=fun q hq=>(hc.go.ext.c q r hq).symm;rcases hc.go.new j r hr with h1|h1|⟨q,h1,_⟩
   ·exact old j h1
   ·omega
   ·exact old q h1
  ·rw[if_neg hrl]
 have hback:∀j k,backOf ids fresh n' j=some k->∀r,msub' j=some r->backName m msub' ids.length fresh n' w.heap.size k=some r:=by
  intro j k hj r hr;unfold backOf at hj;split at hj
  ·rename_i hlt;have:=hids k (List.mem_of_getElem? hj);obtain⟨q,hq⟩:=this;have h1:subName m ids j=some q:=by unfold subName;simp only[hj,Option.bind_some];exact hq
   have h2:=hc.go.ext.n j q h1;rw[hr]at h2;simp only[sIz]at h2;unfold backName;simp only[hq,h2]
  ·split at hj
   ·rename_i h1 h2;simp only[sIz]at hj;subst hj;unfold backName;simp only[hnone j (by omega) h2];rw[if_pos (by omega),show fresh+(j-ids.length)-fresh+ids.length=j from by omega];exact hr
   ·cases hj
 have hb2:∀j k,backOf ids fresh n' j=some k->∀r,msub' j=some r->backName m msub' ids.length fresh n' w.heap.size k=some r/\(backName m msub' ids.length fresh n' w.heap.size).c r=msub'.c r:=fun j k hj r hr=>⟨hback j k hj r hr,hcap j r hr⟩
 -- which name of the call stands behind a name
 have hfrom:∀n r,m n=none->backName m msub' ids.length fresh n' w.heap.size n=some r->fresh<=n/\n-fresh+ids.length<n'/\msub' (n-fresh+ids.length)=some r:=by
  intro n r hn hr;unfold backName at hr;simp only[hn]at hr;split at hr
  ·rename_i hcond;exact⟨hcond.1,hcond.2,hr⟩
  ·cases hr
 have hkeep:∀n q,m n=some q->backName m msub' ids.length fresh n' w.heap.size n=some q:=by intro n q hn;unfold backName;simp only[hn]
 -- of the old names: they count if they have counted
 have hL:∀q r,subName m ids q=some r->liveM M q->∃n,m n=some r/\L n/\∃p∈wr',p.1=n:=by intro q r h hl;obtain⟨n,h1,h2⟩:=hsub q r h;obtain⟨p,hp,he⟩:=hwr3 q (by have:=hlt q r h;omega);unfold backOf at he;rw[if_pos (hlt q r h),h1]at he;simp only[sIz]at he;exact⟨n,h2,hlv q n h1 hl,p,hp,he.symm⟩
 -- a written block and its place in the call
 have hplace:∀p∈wr',∃j b,j<n'/\M'[j]? =some b/\backOf ids fresh n' j=some p.1/\p.2.k=b.k/\∀r,backName m msub' ids.length fresh n' w.heap.size p.1=some r->msub' j=some r:=by intro p hp;obtain⟨j,b,cs,id,hj,hb,hcs,hid,rfl⟩:=hwr2 p hp;refine⟨j,b,hj,hb,hid,rfl,fun r hr=> ?_⟩;obtain⟨q,hq,_⟩:=hc.mem.blk j b hb;have:=hback j id hid q hq;simp only at hr;rw[this]at hr;rw[hq,<-hr]
 have hlive:∀{p:Nat×Blk}{b:Blk}{j:Nat},p.2.k=b.k->p.2.live=true->M'[j]? =some b->liveM M' j:=by intro p b j h1 h2 h3;refine⟨b,h3,?_⟩;unfold Blk.live at h2 ⊢;rw[<-h1];exact h2
 refine⟨backName m msub' ids.length fresh n' w.heap.size,⟨hkeep,fun n r hr=>by show(if r<w.heap.size then m.c r else msub'.c r)=_;rw[if_pos (hm.lt n r hr)]⟩,ren_ok hb2 hy hc.val,?_,?_,?_,⟨?_⟩,?_,?_,?_⟩
 ·intro p hp;obtain⟨j,b,cs,id,hj,hb,hcs,hid,rfl⟩:=hwr2 p hp;obtain⟨r,hr,hat⟩:=hc.mem.blk j b hb;refine⟨r,hback j id hid r hr,fun hl=> ?_⟩;obtain⟨cv,sp,d,hh,k⟩:=hat hl;obtain⟨d',k'⟩:=Blk.ren_ok hb2 hcs d k (hcap j r hr);exact⟨cv,sp,d',hh,k'⟩
 ·refine hc.go.fr.mono fun r hr ⟨n,hn,hl⟩=> ?_;obtain⟨n0,h1,h2,p,hp,he⟩:=hL n r hn hl;exact⟨p,hp,by rw[he];exact h1,by rw[he];exact h2⟩
 ·intro n r hr;cases hn:m n with
  | some q =>
    left;rw[hkeep n q hn]at hr;exact hr
  | none =>
    obtain⟨h1,h2,h3⟩:=hfrom n r hn hr;refine .inr ⟨?_,?_⟩
    ·obtain⟨p,hp,he⟩:=hwr3 (n-fresh+ids.length) h2;unfold backOf at he;rw[if_neg (by omega),if_pos (by omega)]at he;simp only[sIz]at he;exact⟨p,hp,by omega⟩
    ·rcases hc.go.new _ _ h3 with h4|h4|⟨q,h4,h5⟩
     ·have:=hlt _ _ h4;omega
     ·exact .inl h4
     ·obtain⟨n0,h6,h7,_⟩:=hL q r h4 h5;exact .inr ⟨n0,h6,h7⟩
 ·intro n r hr;cases hn:m n with
  | some q =>
    rw[hkeep n q hn]at hr;simp only[sIz]at hr;subst hr;exact Nat.lt_of_lt_of_le (hm.lt _ _ hn) hc.go.fr.size
  | none =>
    obtain⟨_,_,h3⟩:=hfrom n r hn hr;exact hc.mem.ok.lt _ _ h3
 ·intro p hp hl r hr;obtain⟨j,b,hj,hb,hid,hkk,hfr⟩:=hplace p hp;have h3:=hfr r hr;have hlj:=hlive hkk hl hb;have old:∀q,subName m ids q=some r->liveM M q->∃q∈wr',m q.1=some r/\L q.1:=by intro q h hq;obtain⟨n0,h6,h7,p',hp',he⟩:=hL q r h hq;exact⟨p',hp',by rw[he];exact h6,by rw[he];exact h7⟩
  rcases hc.go.new _ _ h3 with h4|h4|⟨q,h4,h5⟩
  ·exact .inr (old j h4 (hc.go.dd j r h4 hlj))
  ·exact .inl h4
  ·exact .inr (old q h4 h5)
 ·intro p hp p' hp' hl hl' r hr hr';obtain⟨j,b,hj,hb,hid,hkk,hfr⟩:=hplace p hp;obtain⟨j',b',hj',hb',hid',hkk',hfr'⟩:=hplace p' hp';have e:=hc.mem.inj j j' r (hlive hkk hl hb) (hlive hkk' hl' hb') (hfr r hr) (hfr' r hr');subst e;rw[hid]at hid';exact Option.some.inj hid'
 ·intro p hp r hr hl;obtain⟨j,b,hj,hb,hid,hkk,hfr⟩:=hplace p hp;have h3:=hfr r (hkeep _ _ hr);have hid0:=hid;unfold backOf at hid;split at hid
  ·have h1:subName m ids j=some r:=by unfold subName;simp only[hid,Option.bind_some];exact hr
   exact hlv j p.1 hid (hc.go.dd j r h1 (hlive hkk hl hb))
  ·rename_i h1;simp only[hj,if_true,sIz]at hid;rw[<-hid,hnone j (by omega) hj]at hr;cases hr
theorem evCall_ok{call:CallF}{get:Nat->Option Blk}{fresh:Nat}{ds ds':Dec}{g:FuncId}{args:List SV}{y:SV}{wr:List (Nat×Blk)}{rd:List Nat}{ob:Obs}
  (hcall:CallOk P call) (h:evCall call get fresh ds g args=some (y,wr,rd,ds',ob)) (ho:ObsOk ob) (hm:NameOk m w)
  (hnew:∀p∈wr,fresh<=p.1->m p.1=none) (hold:∀n∈rd,∀b,get n=some b->∃r,m n=some r/\BlkAt m w r b)
  (hL:∀n∈rd,∀b,get n=some b->b.live=true->L n) (hinj:∀n n' r,L n->L n'->m n=some r->m n'=some r->n=n') {vs:List Value} (ha:dens m args=some vs) :
  Calls P g vs.toArray w fun e w'=>∃v,e= .returned v/\∃m',OpPost m w L y wr m' v w':=by
 unfold evCall at h;simp only[]at h;generalize hids:reach get 1000 (idsOfs args) []=ids at h;split at h
 ·rename_i hchk;simp only[aTz,List.all_eq_true]at hchk;split at h
  ·rename_i args' blks hargs hblks;split at h
   ·rename_i x M' ds2 ob2 hcl;have hmem:=mapM_get hblks;have key:∀n' wr0 y0,ids.length<=n'->backAll ids fresh n' x M'=some (y0,wr0)->keepW ids get wr0=wr->y0=y->rd=ids->keepO ids get wr0++ob2=ob->
      Calls P g vs.toArray w fun e w'=>∃v,e= .returned v/\∃m',OpPost m w L y wr m' v w':=by
     intro n' wr0 y0 hk hback e1 e2 e3 e4;subst e1 e2 e3 e4;have hids':∀n∈rd,∃r,m n=some r:=by intro n hn;obtain⟨j,hj⟩:=List.getElem?_of_mem hn;obtain⟨b,hb,_⟩:=hmem.2 _ _ hj;simp only[Option.bind_eq_some_iff]at hb;obtain⟨c,hc,_⟩:=hb;obtain⟨r,hr,_⟩:=hold n hn c hc;exact⟨r,hr⟩
     have hpos:∀n k,posOf rd n=some k->∀r,m n=some r->subName m rd k=some r/\(subName m rd).c r=m.c r:=by intro n k hk r hr;refine⟨?_,rfl⟩;unfold subName;simp only[posOf_ok hk,Option.bind_some];exact hr
     have hsub:∀k r,subName m rd k=some r->∃n,rd[k]? =some n/\m n=some r:=by intro k r h;unfold subName at h;simp only[Option.bind_eq_some_iff]at h;exact h
     have hblk:∀(j:Nat)(b:Blk),blks[j]? =some b->∃n c cs,rd[j]? =some n/\n∈rd/\get n=some c/\c.ren (posOf rd)=some cs/\b=(⟨c.elem,cs,c.k⟩:Blk):=by
      intro j b hb;have hjl:j<rd.length:=by
       rcases Nat.lt_or_ge j blks.length with h'|h'
       ·rw[hmem.1]at h';exact h'
       ·rw[List.getElem?_eq_none h']at hb;cases hb
      have hj:rd[j]? =some rd[j]:=by simp[hjl]
      obtain⟨b',hb',hget⟩:=hmem.2 _ _ hj;rw[hb]at hget;simp only[sIz]at hget;subst hget;simp only[Option.bind_eq_some_iff,mIz]at hb';obtain⟨c,hc,cs,hcs,rfl⟩:=hb';exact⟨rd[j],c,cs,hj,by simp,hc,hcs,rfl⟩
     have hlv:∀(j n:Nat),rd[j]? =some n->liveM blks j->L n:=by rintro j n hn ⟨b,hb,hl⟩;obtain⟨n0,c,cs,h1,h2,h3,h4,rfl⟩:=hblk j b hb;rw[hn]at h1;simp only[sIz]at h1;subst h1;exact hL n h2 c h3 hl
     have hMA:MemAt (subName m rd) w blks:=by
      refine⟨⟨?_⟩,?_,?_,?_⟩
      ·intro i r h1;obtain⟨n1,a1,b1⟩:=hsub i r h1;exact hm.lt _ _ b1
      ·intro i j r l1 l2 h1 h2;obtain⟨n1,a1,b1⟩:=hsub i r h1;obtain⟨n2,a2,b2⟩:=hsub j r h2;have:=hinj _ _ _ (hlv i n1 a1 l1) (hlv j n2 a2 l2) b1 b2;subst this;exact nodupB_ok hchk.1 a1 a2
      ·intro j b hb;obtain⟨n0,c,cs,h1,h2,h3,h4,rfl⟩:=hblk j b hb;obtain⟨r,hr,hat⟩:=hold n0 h2 c h3;refine⟨r,by unfold subName;simp only[h1,Option.bind_some];exact hr,fun hl=> ?_⟩;obtain⟨cv,sp,d,hh,k⟩:=hat hl;obtain⟨d',k'⟩:=Blk.ren_ok hpos h4 d k rfl;exact⟨cv,sp,d',hh,k'⟩
      ·intro j r h1;obtain⟨n1,a1,b1⟩:=hsub j r h1;rw[hmem.1];rcases Nat.lt_or_ge j rd.length with h'|h'
       ·exact h'
       ·rw[List.getElem?_eq_none h']at a1;cases a1
     refine Calls.mono (hcall g args' blks ds x M' ds2 ob2 hcl ho.right _ w vs (rens_ok hpos hargs ha) hMA) fun e w' hh=> ?_;obtain⟨m',v,rfl,hpost⟩:=hh;have hnew2:∀p∈wr0,fresh<=p.1->m p.1=none:=by
      intro p hp hf;cases hc:sameW rd get p
      ·exact hnew p (List.mem_filter.2 ⟨hp,by rw[hc];rfl⟩) hf
      ·have h2:=(sameW_ok hc (keepO_in hp ho.left)).1;have:=Nat.blt_eq.mp (hchk.2 p.1 h2);omega
     obtain⟨m2,hp2⟩:=backAll_ok hback hm hk hids' hlv hpost hnew2;exact⟨v,rfl,m2,hp2.keep ho.left hold⟩
    split at h
    ·rename_i y1 wr1 hb1;simp only[sIz,pIz]at h;obtain⟨rfl,rfl,rfl,_,rfl⟩:=h;exact key _ _ _ (Nat.le_refl _) hb1 rfl rfl rfl rfl
    ·split at h
     ·rename_i hle;simp only[mIz,pIz]at h;obtain⟨⟨y1,wr1⟩,hb1,rfl,rfl,rfl,_,rfl⟩:=h;exact key _ _ _ (Nat.ble_eq.mp hle) hb1 rfl rfl rfl rfl
     ·cases h
   ·cases h
  ·cases h
 ·cases h
end
abbrev ExtF:=FuncId->Option (List SV->Option (SV×Obs))
def ExtOk(P:Program)(E:ExtF):Prop:=
 ∀g f,E g=some f->∀args x ob,f args=some (x,ob)->ObsOk ob->∀(m:Nms)vs,dens m args=some vs->∃v,den m x=some v/\∀w,(callFunc g vs.toArray).run P w= .ok (.value v) w
structure Good (P:Program) (E:ExtF):Prop where
 ext:ExtOk P E
 mixed:P.follows .mixedOrders=true
 names : ∀ (g : Nat) (fn : Func), P.funcs[g]? = some fn → fn.body.isSome = true → (fn.name == "runtime.NumGoroutine") = false
structure Eff where
 x:SV
 wr:List (Nat×Blk)
 rd:List Nat
 ds:Dec
 ob:Obs
def isMem(o:Oper):Bool:=
 match o.op with
 | .alloc _| .box _ _| .buildSlice _ _ _| .load _ _| .store _ _ _| .makeSlice _ _ _=>true
 | .call c => match c.callee with
   | .builtin .append=>true
   |_=>false
 |_=>false
def hasBody(P:Program)(g:FuncId):Bool:=
 match P.funcs[g]? with
 |some fn=>fn.body.isSome
 |none=>false
def calleeOf(ρ:Operand->SV)(o:Oper):Option (FuncId×List SV):=
 match o.op with
 | .call c => match c.callee with
   | .value f => match ρ f with
     | .fn (.func g) first cap=>some (g,first++c.args.toList.map ρ++cap)
     |_=>none
   |_=>none
 |_=>none
def evOp(P:Program)(E:ExtF)(call:CallF)(ρ:Operand->SV)(get:Nat->Option Blk)(fresh:Nat)(ds:Dec)(o:Oper):Option Eff:=
 if isMem o then(evMem P ρ get fresh o).map fun q=>⟨q.1,q.2.1,q.2.2.1,ds,q.2.2.2⟩
 else match calleeOf ρ o with
  | some (g, args) => match E g with
    |some f=>(f args).map fun q=>⟨q.1,[],[],ds,q.2⟩
    |none=>if hasBody P g then(evCall call get fresh ds g args).map fun q=>⟨q.1,q.2.1,q.2.2.1,q.2.2.2.1,q.2.2.2.2⟩else none
  |none=>(evPure P ρ ds o).map fun q=>⟨q.1,[],[],q.2.1,q.2.2⟩
theorem evOp_ok{P:Program}{E:ExtF}{call:CallF}{ρ:Operand->SV}{get:Nat->Option Blk}{fresh:Nat}{ds:Dec}{o:Oper}{e:Eff}(hP:Good P E)(hcall:CallOk P call)
  (h:evOp P E call ρ get fresh ds o=some e) (ho:ObsOk e.ob) {m:Nms} {w:World} {L:Nat->Prop} (hm:NameOk m w)
  (hnew:∀p∈e.wr,fresh<=p.1->m p.1=none) (hold:∀n∈e.rd,∀b,get n=some b->∃r,m n=some r/\BlkAt m w r b)
  (hL:∀n∈e.rd,∀b,get n=some b->b.live=true->L n) (hinj:∀n n' r,L n->L n'->m n=some r->m n'=some r->n=n')
  {ρv:Operand->Value} (hρ:∀y∈o.op.operands,den m (ρ y)=some (ρv y)) :
  OpGoes P o ρv w fun v w'=>∃m',OpPost m w L e.x e.wr m' v w':=by
 unfold evOp at h;split at h
 ·simp only[mIz]at h;obtain⟨⟨x,wr,rd,ob⟩,hq,rfl⟩:=h;exact evMem_ok hq ho hm hnew hold hL hρ
 ·split at h
  ·rename_i g args hc;unfold calleeOf at hc;split at hc
   ·rename_i c hop;split at hc
    ·rename_i f hcal;split at hc
     ·rename_i g' first cap hf
      simp only[sIz,pIz]at hc;obtain⟨rfl,rfl⟩:=hc;have hfv:=hρ f (by rw[hop];simp[Op.operands,Call.operands,hcal]);rw[hf]at hfv;simp only[den,Option.bind_eq_some_iff,mIz]at hfv;obtain⟨fv,hfirst,cv,hcap,hfe⟩:=hfv;have hargs:=args_ok (m:=m) (ρ:=ρ) (ρv:=ρv) c.args.toList fun q hq=>hρ q (by rw[hop];simp only[Op.operands,Call.operands,Array.mem_append];right;simpa using hq);have hall:=dens_append (dens_append hfirst hargs) hcap;have hexec:execOp ρv o=callFunc g' (fv++c.args.toList.map ρv++cv).toArray:=by
       have e:(fv++c.args.toList.map ρv++cv).toArray=fv.toArray++c.args.map ρv++cv.toArray:=by apply Array.ext';simp
       simp only[execOp,hop,resolve,hcal,Deferred.ofValue,<-hfe,e];rfl
      split at h
      ·rename_i f' hE;simp only[mIz]at h;obtain⟨⟨x,ob⟩,hx,rfl⟩:=h;obtain⟨v,hv,hrun⟩:=hP.ext g' f' hE _ x ob hx ho m _ hall;exact OpGoes.value (w':=w) (by rw[hexec];exact hrun w) ⟨m,OpPost.pure hm hv⟩
      ·split at h
       ·rename_i hbody;simp only[mIz]at h;obtain⟨⟨x,wr,rd,ds',ob⟩,hq,rfl⟩:=h;unfold hasBody at hbody;split at hbody
        ·rename_i fn hfn;refine OpGoes.enter (f:=g') (args:=(fv++c.args.toList.map ρv++cv).toArray) (w':=w) ?_ (evCall_ok hcall hq ho hm hnew hold hL hinj hall);have hnone:¬fn.body=none:=by intro hb;rw[hb]at hbody;cases hbody
         have hname : ¬ fn.name = "runtime.NumGoroutine" := by
          have:=hP.names g' fn hfn hbody
          simpa using this
         rw[hexec];simp[callFunc,hfn,hname,hnone]
        ·cases hbody
       ·cases h
     ·cases hc
    ·cases hc
   ·cases hc
  ·simp only[mIz]at h;obtain⟨⟨x,ds',ob⟩,hq,rfl⟩:=h;obtain⟨v,hv,hrun⟩:=(evPure_ok (m:=m) hq ho hρ).out;exact OpGoes.value (hrun w) ⟨m,OpPost.pure hm hv⟩
structure St where
 T:List SV
 M:List Blk
 ds:Dec
 ob:Obs
def oper(T:List SV):Operand->SV
 | .tmp t=>T.getD t (.tup [])
 | .const v=>ofV v
 | .global g=> .o (.pointer (some ⟨g,0,none⟩))
 | .func f=> .fn (.func f) [] []
theorem oper_ok{m:Nms}{T:List SV}{a:Act}(h:dens m T=some a.tmps.toList)(x:Operand):den m (oper T x)=some (a.eval x):=by
 cases x with
 | tmp t =>
   simp only[oper,Act.eval,List.getD];cases ht:T[t]? with
   | some y =>
     obtain⟨v,hv,hd⟩:=dens_get h ht;have:a.tmps[t]? =some v:=by simpa using hv
     simp[this,hd]
   | none =>
     have hl:=dens_length h;have:T.length<=t:=by simpa using ht
     have h2:a.tmps[t]? =none:=by apply Array.getElem?_eq_none;simp only[Array.length_toList]at hl;omega
     simp[h2,den,dens,undef]
 |const v=>exact den_ofV v
 |global g=>simp[oper,den,Act.eval]
 |func f=>simp[oper,den,dens,Act.eval]
def yS(ops:Array Oper)(T:List SV)(j:Nat):Option Bool:=
 match (ops[j]?).bind (·.dst)with
 | some d => match T[d]? with
   |some (.b c)=>some c
   |some (.o (.bool c))=>some c
   |_=>none
 |none=>none
theorem den_bool{m:Nms}{x:SV}{c:Bool}(h:den m x=some (.bool c)):x= .b c\/x= .o (.bool c):=by
 cases x<;>simp only[den,sIz,mIz,Option.bind_eq_some_iff,oslV_some]at h
 case b=>left;cases h;rfl
 case o=>right;rw[h]
 all_goals first
  |(cases h;done)
  |(obtain⟨_,_,_,h⟩:=h;cases h;done)
  |(obtain⟨_,_,h⟩:=h;cases h;done)
  |(obtain⟨_,_,_,_,h⟩:=h;cases h;done)
theorem yS_ok{m:Nms}{ops:Array Oper}{T:List SV}{a:Act}(h:dens m T=some a.tmps.toList)(j:Nat):yielded ops a.tmps j=yS ops T j:=by
 unfold yielded yS;cases hd:(ops[j]?).bind (·.dst)with
 |none=>simp
 | some d =>
   simp only[Option.bind_some];cases ht:T[d]? with
   | none =>
     have hl:=dens_length h;have h1:T.length<=d:=by simpa using ht
     have h2:a.tmps[d]? =none:=by apply Array.getElem?_eq_none;simp only[Array.length_toList]at hl;omega
     rw[h2]
   | some x =>
     obtain⟨v,hv,hx⟩:=dens_get h ht;have h2:a.tmps[d]? =some v:=by simpa using hv
     rw[h2];split
     ·rename_i b hb;simp only[sIz]at hb;subst hb;rcases den_bool hx with rfl|rfl<;>rfl
     ·rename_i hnb;split
      ·rename_i c hc;simp only[sIz]at hc;subst hc;simp only[den,sIz]at hx;subst hx;exact absurd rfl (hnb c)
      ·rename_i c hc;simp only[sIz]at hc;subst hc;simp only[den,sIz]at hx;subst hx;exact absurd rfl (hnb c)
      ·rfl
def wantedS(ops:Array Oper)(T:List SV)(o:Oper):Bool:=
 match o.guard with
 |none=>true
 | some (j, want) => match yS ops T j with
   |some c=>c==want
   |none=>false
theorem wantedS_ok{m:Nms}{ops:Array Oper}{T:List SV}{a:Act}(h:dens m T=some a.tmps.toList)(o:Oper):Region.wanted o (yielded ops a.tmps)=wantedS ops T o:=by
 unfold Region.wanted wantedS;cases o.guard with
 |none=>rfl
 | some p =>
   obtain⟨j,want⟩:=p;simp only[yS_ok h];cases yS ops T j with
   |none=>rfl
   |some c=>cases c<;>cases want<;>rfl
def putT(dst:Option Tmp)(x:SV)(T:List SV):List SV:=
 match dst with
 |some d=>T.set d x
 |none=>T
theorem putT_ok{m:Nms}{T:List SV}{a:Act}(h:dens m T=some a.tmps.toList){x:SV}{v:Value}(hx:den m x=some v)(dst:Option Tmp) :
  dens m (putT dst x T)=some (a.put dst v).tmps.toList:=by
 cases dst with
 |none=>exact h
 | some d =>
   simp only[putT,Act.put];have:=dens_set h hx d;rw[this];simp
def puts(M:List Blk):List (Nat×Blk)->Option (List Blk)
 | []=>some M
 |(n,b)::r=>if Nat.blt n M.length then puts (M.set n b) r else if Nat.beq n M.length then puts (M++ [b]) r else none
theorem puts_ok:∀{wr:List (Nat×Blk)}{M M':List Blk},puts M wr=some M'->
  M.length<=M'.length/\(∀p∈wr,p.1<M'.length)/\∀(n:Nat)(b:Blk),M'[n]? =some b->(∃p∈wr,p.1=n/\p.2=b)\/(M[n]? =some b/\∀p∈wr,p.1≠n)
 | [],M,M',h=>by simp only[puts,sIz]at h;subst h;exact⟨Nat.le_refl _,by simp,fun n b hb=> .inr ⟨hb,by simp⟩⟩
 | (n0, b0) :: r, M, M', h => by
   unfold puts at h;split at h
   ·rename_i hlt;have hlt':=Nat.blt_eq.mp hlt;obtain⟨h1,h2,h3⟩:=puts_ok h;rw[List.length_set]at h1;refine⟨h1,?_,?_⟩
    ·intro p hp;rcases List.mem_cons.1 hp with rfl|hp
     ·exact Nat.lt_of_lt_of_le hlt' h1
     ·exact h2 p hp
    ·intro n b hb;rcases h3 n b hb with⟨p,hp,e1,e2⟩|⟨h4,h5⟩
     ·exact .inl ⟨p,by simp[hp],e1,e2⟩
     ·by_cases e:n0=n
      ·subst e;rw[List.getElem?_set_self hlt']at h4;simp only[sIz]at h4;exact .inl ⟨(n0,b0),by simp,rfl,h4⟩
      ·rw[List.getElem?_set_ne e]at h4;refine .inr ⟨h4,fun p hp=> ?_⟩;rcases List.mem_cons.1 hp with rfl|hp
       ·exact e
       ·exact h5 p hp
   ·split at h
    ·rename_i heq;have heq':=Nat.eq_of_beq_eq_true heq;obtain⟨h1,h2,h3⟩:=puts_ok h;simp only[List.length_append,List.length_cons,List.length_nil]at h1;refine⟨by omega,?_,?_⟩
     ·intro p hp;rcases List.mem_cons.1 hp with rfl|hp
      ·simp only;omega
      ·exact h2 p hp
     ·intro n b hb;rcases h3 n b hb with⟨p,hp,e1,e2⟩|⟨h4,h5⟩
      ·exact .inl ⟨p,by simp[hp],e1,e2⟩
      ·by_cases e:n0=n
       ·subst e;rw[heq',List.getElem?_append_right (Nat.le_refl _)]at h4;simp at h4;exact .inl ⟨(n0,b0),by simp,rfl,h4⟩
       ·have hl:n<M.length:=by
         rcases Nat.lt_or_ge n M.length with h'|h'
         ·exact h'
         ·rw[List.getElem?_eq_none (by simp;omega)]at h4;cases h4
        rw[List.getElem?_append_left hl]at h4;refine .inr ⟨h4,fun p hp=> ?_⟩;rcases List.mem_cons.1 hp with rfl|hp
        ·exact e
        ·exact h5 p hp
    ·cases h
structure StAtD (δ:List Deferred) (m:Nms) (s:St) (a:Act) (w:World):Prop where
 tm:dens m s.T=some a.tmps.toList
 df:a.defers=δ
 mem:MemAt m w s.M
abbrev StAt(m:Nms)(s:St)(a:Act)(w:World):Prop:=StAtD [] m s a w
theorem mem_after{m m':Nms}{w w':World}{M M':List Blk}{x:SV}{wr:List (Nat×Blk)}{v:Value}(hm:MemAt m w M)(hp:OpPost m w (liveM M) x wr m' v w')(hM:puts M wr=some M') :
  MemAt m' w' M'/\Goes m M w m' M' w':=by
 obtain⟨h1,h2,h3⟩:=puts_ok hM
 -- what counts behind it
 have hl:∀n,liveM M' n->(∃p∈wr,p.1=n/\p.2.live=true)\/(liveM M n/\∀p∈wr,p.1≠n):=by
  rintro n ⟨b,hb,hbl⟩;rcases h3 n b hb with⟨p,hp',rfl,rfl⟩|⟨h4,h5⟩
  ·exact .inl ⟨p,hp',rfl,hbl⟩
  ·exact .inr ⟨⟨b,h4,hbl⟩,h5⟩
 have hnew:∀n r,m' n=some r->(∀p∈wr,p.1≠n)->m n=some r:=by
  intro n r hr hn;rcases hp.new n r hr with h|⟨⟨p,hp',he⟩,_⟩
  ·exact h
  ·exact absurd he (hn p hp')
 have hmix:∀n n' r,(∃p∈wr,p.1=n/\p.2.live=true)->liveM M n'->(∀p∈wr,p.1≠n')->m' n=some r->m' n'=some r->False:=by
  rintro n n' r ⟨p,hp',rfl,hpl⟩ l1 l2 hr hr';have h4:=hnew n' r hr' l2;rcases hp.src p hp' hpl r hr with h5|⟨q,hq,h5,h6⟩
  ·have:=hm.ok.lt n' r h4;omega
  ·exact l2 q hq (hm.inj q.1 n' r h6 l1 h5 h4)
 refine⟨⟨hp.ok,?_,?_,?_⟩,hp.ext,hp.fr.mono fun r _ ⟨p,_,hr,hL⟩=>⟨p.1,hr,hL⟩,?_,?_⟩
 ·intro n n' r l1 l2 hr hr';rcases hl n l1 with⟨p,hp',e,hpl⟩|⟨l3,l4⟩<;>rcases hl n' l2 with⟨p',hp'',e',hpl'⟩|⟨l5,l6⟩
  ·subst e;subst e';exact hp.uni p hp' p' hp'' hpl hpl' r hr hr'
  ·exact(hmix n n' r ⟨p,hp',e,hpl⟩ l5 l6 hr hr').elim
  ·exact(hmix n' n r ⟨p',hp'',e',hpl'⟩ l3 l4 hr' hr).elim
  ·exact hm.inj n n' r l3 l5 (hnew n r hr l4) (hnew n' r hr' l6)
 ·intro n b hb;rcases h3 n b hb with⟨p,hp',rfl,rfl⟩|⟨h4,h5⟩
  ·exact hp.blk p hp'
  ·obtain⟨r,hr,hat⟩:=hm.blk n b h4;refine⟨r,hp.ext.n n r hr,fun hbl=>hat.ext hp.ext hr (hp.fr.block r (hm.ok.lt n r hr) ?_) hbl⟩;rintro⟨p,hp',hpr,hpL⟩;exact h5 p hp' (hm.inj _ _ _ hpL ⟨b,h4,hbl⟩ hpr hr)
 ·intro n r hr;rcases hp.new n r hr with h4|⟨⟨p,hp',rfl⟩,_⟩
  ·exact Nat.lt_of_lt_of_le (hm.dom n r h4) h1
  ·exact h2 p hp'
 ·intro n r hr;rcases hp.new n r hr with h4|⟨_,h4|⟨q,h4,h5⟩⟩
  ·exact .inl h4
  ·exact .inr (.inl h4)
  ·exact .inr (.inr ⟨q,h4,h5⟩)
 ·intro n r hr hlv;rcases hl n hlv with⟨p,hp',rfl,hpl⟩|⟨l3,_⟩
  ·exact hp.dd p hp' r hr hpl
  ·exact l3
def stepOp(P:Program)(E:ExtF)(call:CallF)(ops:Array Oper)(o:Oper)(s:St):Option (St×Option Eff):=
 if wantedS ops s.T o then
  match evOp P E call (oper s.T) (s.M[·]?) s.M.length s.ds o with
  | some e => match puts s.M e.wr with
    |some M'=>some (⟨putT o.dst e.x s.T,M',e.ds,e.ob++s.ob⟩,some e)
    |none=>none
  |none=>none
 else some (⟨putT o.dst (.tup []) s.T,s.M,s.ds,s.ob⟩,none)
def runOps(P:Program)(E:ExtF)(call:CallF)(ops:Array Oper):List Oper->St->Option St
 | [],s=>some s
 | o :: r, s => match stepOp P E call ops o s with
   |some (s',_)=>runOps P E call ops r s'
   |none=>none
def Suf(a b:Obs):Prop:=∃l,b=l++a
theorem Suf.refl(a:Obs):Suf a a:=⟨[],rfl⟩
theorem Suf.trans{a b c:Obs}(h:Suf a b)(k:Suf b c):Suf a c:=by obtain⟨l,rfl⟩:=h;obtain⟨r,rfl⟩:=k;exact⟨r++l,by simp⟩
theorem Suf.ok{a b:Obs}(h:Suf a b)(hb:ObsOk b):ObsOk a:=by obtain⟨l,rfl⟩:=h;exact hb.right
theorem stepOp_suf{P:Program}{E:ExtF}{call:CallF}{ops:Array Oper}{o:Oper}{s s':St}{e:Option Eff}(h:stepOp P E call ops o s=some (s',e)):Suf s.ob s'.ob:=by
 unfold stepOp at h;split at h
 ·split at h
  ·split at h
   ·simp only[sIz,pIz]at h;obtain⟨rfl,_⟩:=h;exact⟨_,rfl⟩
   ·cases h
  ·cases h
 ·simp only[sIz,pIz]at h;obtain⟨rfl,_⟩:=h;exact Suf.refl _
theorem runOps_suf{P:Program}{E:ExtF}{call:CallF}{ops:Array Oper}:∀{l:List Oper}{s s':St},runOps P E call ops l s=some s'->Suf s.ob s'.ob
 | [],s,s',h=>by simp only[runOps,sIz]at h;subst h;exact Suf.refl _
 | o :: r, s, s', h => by
   unfold runOps at h;split at h
   ·rename_i s1 e hs;exact(stepOp_suf hs).trans (runOps_suf h)
   ·cases h
theorem undef_den(m:Nms):den m (.tup [])=some undef:=by simp[den,dens,undef]
theorem runOps_ok{P:Program}{E:ExtF}{call:CallF}(hP:Good P E)(hcall:CallOk P call){ops:Array Oper}{Q:Exit->Act->World->Prop}:∀{l:List Oper}{s s':St},runOps P E call ops l s=some s'->ObsOk s'.ob->
  ∀{δ:List Deferred}{m:Nms}{a:Act}{w:World},StAtD δ m s a w->(∀m' a' w',StAtD δ m' s' a' w'->Goes m s.M w m' s'.M w'->Q .normal a' w')->wpList P ops Q l a w
 | [], s, s', h, ho, δ, m, a, w, hs, hq => by simp only[runOps,sIz]at h;subst h;exact hq m a w hs (Goes.refl m s.M w)
 | o :: r, s, s', h, ho, δ, m, a, w, hs, hq => by
   unfold runOps at h;split at h
   ·rename_i s1 e hst;have ho1:=(runOps_suf h).ok ho;have hput:∀(x:Value),(a.put o.dst x).defers=δ:=fun x=>by cases o.dst<;>exact hs.df
    unfold wpList;unfold stepOp at hst;split at hst
    ·rename_i hw;rw[if_pos (by rw[wantedS_ok hs.tm];exact hw)];split at hst
     ·rename_i e0 he;split at hst
      ·rename_i M' hM;simp only[sIz,pIz]at hst;obtain⟨rfl,_⟩:=hst;left;have hgo:=evOp_ok hP hcall he (ObsOk.left (b:=s.ob) ho1) (m:=m) (w:=w) (L:=liveM s.M) (ρv:=a.eval) hs.mem.ok
        (fun p hp hle=>by
         cases hmp:m p.1 with
         |none=>rfl
         |some r0=>have:=hs.mem.dom _ _ hmp;omega)
        (fun n hn b hb=>hs.mem.blk n b hb) (fun n hn b hb hl=>⟨b,hb,hl⟩) hs.mem.inj (fun y _=>oper_ok hs.tm y)
       refine hgo a _ Q rfl fun v w' hpost=> ?_;obtain⟨m',hp⟩:=hpost;obtain⟨hmem,hgoes⟩:=mem_after hs.mem hp hM;refine runOps_ok hP hcall h ho (m:=m') ⟨putT_ok (dens_ext hp.ext hs.tm) hp.val o.dst,hput v,hmem⟩ fun m'' a'' w'' hst' hg'=>hq m'' a'' w'' hst' (hgoes.trans hg')
      ·cases hst
     ·cases hst
    ·rename_i hw;simp only[sIz,pIz]at hst;obtain⟨rfl,_⟩:=hst;rw[if_neg (by rw[wantedS_ok hs.tm];exact hw)];exact runOps_ok hP hcall h ho (m:=m) ⟨putT_ok hs.tm (undef_den m) o.dst,hput undef,hs.mem⟩ hq
   ·cases h
end Rx
