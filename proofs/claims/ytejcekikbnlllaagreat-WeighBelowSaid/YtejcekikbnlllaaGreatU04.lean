/- The reckoner: operations whose order is open. The reckoner: operations whose order is .. -/
import Derived.Scope
import Derived.Below
import Derived.Test.YtejcekikbnlllaaGreatU03
set_option linter.all false
namespace Rx
open Go
inductive Val where
 |s (x:SV)
 |k (b:Blk)
def kt(n:Nat):Nat:=2*n
def kb(n:Nat):Nat:=2*n+1
def upd:List (Nat×Val)->(Nat->Option Val)->Nat->Option Val
 | [],F=>F
 |(k,v)::r,F=>upd r fun x=>if x=k then some v else F x
theorem upd_other:∀{ws:List (Nat×Val)}{F:Nat->Option Val}{k:Nat},k ∉ ws.map (·.1)->upd ws F k=F k
 | [],F,k,_=>rfl
 | (j, v) :: r, F, k, h => by simp only[List.map_cons,List.mem_cons,not_or]at h;rw[upd,upd_other h.2,if_neg h.1]
theorem upd_same:∀{ws:List (Nat×Val)}{F G:Nat->Option Val}{k:Nat},k∈ws.map (·.1)->upd ws F k=upd ws G k
 | [],F,G,k,h=>by simp at h
 | (j, v) :: r, F, G, k, h => by
   rw[upd,upd];by_cases h2:k∈r.map (·.1)
   ·exact upd_same h2
   ·simp only[List.map_cons,List.mem_cons]at h;have e:k=j:=h.resolve_right h2;rw[upd_other h2,upd_other h2,if_pos e,if_pos e]
theorem upd_mem:∀{ws:List (Nat×Val)}{F:Nat->Option Val}{k:Nat},k∈ws.map (·.1)->∃v,upd ws F k=some v/\(k,v)∈ws
 | [],F,k,h=>by simp at h
 | (j, u) :: r, F, k, h => by
   rw[upd];by_cases h2:k∈r.map (·.1)
   ·obtain⟨v,h3,h4⟩:=upd_mem (F:=fun x=>if x=j then some u else F x) h2;exact⟨v,h3,by simp[h4]⟩
   ·simp only[List.map_cons,List.mem_cons]at h;have e:k=j:=h.resolve_right h2;exact⟨u,by rw[upd_other h2,if_pos e],by simp[e]⟩
theorem upd_get{ws:List (Nat×Val)}{F:Nat->Option Val}{k:Nat}{v:Val}(h:upd ws F k=some v):(k,v)∈ws\/(F k=some v/\k ∉ ws.map (·.1)):=by
 by_cases h2:k∈ws.map (·.1)
 ·obtain⟨u,h3,h4⟩:=upd_mem (F:=F) h2;rw[h]at h3;simp only[sIz]at h3;subst h3;exact .inl h4
 ·rw[upd_other h2]at h;exact .inr ⟨h,h2⟩
theorem upd_congr{ws:List (Nat×Val)}{F G:Nat->Option Val}{k:Nat}(h:F k=G k):upd ws F k=upd ws G k:=by
 by_cases h2:k∈ws.map (·.1)
 ·exact upd_same h2
 ·rw[upd_other h2,upd_other h2,h]
theorem upd_append(a b:List (Nat×Val))(F:Nat->Option Val):upd (a++b) F=upd b (upd a F):=by
 induction a generalizing F with
 |nil=>rfl
 |cons p a ih=>obtain⟨k,v⟩:=p;simp only[List.cons_append,upd];exact ih _
structure CR where
 o:Oper
 s:St
 e:Option Eff
def runRec(P:Program)(E:ExtF)(call:CallF)(ops:Array Oper):List Oper->St->Option (St×List CR)
 | [],s=>some (s,[])
 | o :: r, s => match stepOp P E call ops o s with
   | some (s', e) => match runRec P E call ops r s' with
     |some (s2,crs)=>some (s2,⟨o,s,e⟩::crs)
     |none=>none
   |none=>none
def usesOf(ops:Array Oper)(c:CR):List Nat:=
 (c.o.op.operands.toList.filterMap fun| .tmp t=>some (kt t)|_=>none)++
 (match c.o.guard with
  | some (g, _) => match (ops[g]?).bind (·.dst) with
    |some d=>[kt d]
    |none=>[]
  |none=>[])++
 (match c.e with
  |some e=>e.rd.map kb
  |none=>[])
def outOf(c:CR):SV:=match c.e with|some e=>e.x|none=> .tup []
def wrOf(c:CR):List (Nat×Blk):=match c.e with|some e=>e.wr|none=>[]
def dstW(dst:Option Tmp)(x:SV):List (Nat×Val):=
 match dst with
 |some d=>[(kt d,.s x)]
 |none=>[]
def writes(c:CR):List (Nat×Val):=
 dstW c.o.dst (outOf c)++(wrOf c).map fun p=>(kb p.1,.k p.2)
def wKeys(c:CR):List Nat:=
 (match c.o.dst with|some d=>[kt d]|none=>[])++(wrOf c).map fun p=>kb p.1
theorem wKeys_eq(c:CR):(writes c).map (·.1)=wKeys c:=by unfold writes wKeys dstW;cases c.o.dst<;>simp
def storeOf(s:St)(k:Nat):Option Val:=
 if k%2=0 then(s.T[k/2]?).map .s else(s.M[k/2]?).map .k
theorem storeOf_t(s:St)(t:Nat):storeOf s (kt t)=(s.T[t]?).map .s:=by unfold storeOf kt;rw[if_pos (by omega),show 2*t/2=t from by omega]
theorem storeOf_b(s:St)(n:Nat):storeOf s (kb n)=(s.M[n]?).map .k:=by unfold storeOf kb;rw[if_neg (by omega),show(2*n+1)/2=n from by omega]
theorem key_cases(k:Nat):(∃t,k=kt t)\/∃n,k=kb n:=by
 unfold kt kb;rcases Nat.mod_two_eq_zero_or_one k with h|h
 ·exact .inl ⟨k/2,by omega⟩
 ·exact .inr ⟨k/2,by omega⟩
theorem puts_store:∀{wr:List (Nat×Blk)}{M M':List Blk}{T:List SV}{ds:Dec}{ob:Obs},puts M wr=some M'->
  storeOf ⟨T,M',ds,ob⟩=upd (wr.map fun p=>(kb p.1,.k p.2)) (storeOf ⟨T,M,ds,ob⟩)
 | [],M,M',T,ds,ob,h=>by simp only[puts,sIz]at h;subst h;rfl
 | (n, b) :: r, M, M', T, ds, ob, h => by
   unfold puts at h;simp only[List.map_cons,upd];split at h
   ·rename_i hlt;have hlt':=Nat.blt_eq.mp hlt;rw[puts_store h];congr 1;funext k;rcases key_cases k with⟨t,rfl⟩|⟨j,rfl⟩
    ·rw[if_neg (by unfold kt kb;omega),storeOf_t,storeOf_t]
    ·rw[storeOf_b,storeOf_b];by_cases e:j=n
     ·subst e;simp[hlt']
     ·rw[if_neg (by unfold kb;omega)];simp only;rw[List.getElem?_set_ne (fun h=>e h.symm)]
   ·split at h
    ·rename_i heq;have heq':=Nat.eq_of_beq_eq_true heq;rw[puts_store h];congr 1;funext k;rcases key_cases k with⟨t,rfl⟩|⟨j,rfl⟩
     ·rw[if_neg (by unfold kt kb;omega),storeOf_t,storeOf_t]
     ·rw[storeOf_b,storeOf_b];simp only;by_cases e:j=n
      ·subst e;subst heq';simp
      ·rw[if_neg (by unfold kb;omega)];by_cases hl:j<M.length
       ·rw[List.getElem?_append_left hl]
       ·rw[List.getElem?_eq_none (by simp;omega),List.getElem?_eq_none (by omega)]
    ·cases h
theorem putT_store{dst:Option Tmp}{x:SV}{T:List SV}{M:List Blk}{ds ds':Dec}{ob ob':Obs}(hd:∀d,dst=some d->d<T.length) :
  storeOf ⟨putT dst x T,M,ds,ob⟩=upd (dstW dst x) (storeOf ⟨T,M,ds',ob'⟩):=by
 cases dst with
 |none=>funext k;rcases key_cases k with⟨t,rfl⟩|⟨j,rfl⟩<;>simp[putT,dstW,upd,storeOf_t,storeOf_b]
 | some d =>
   have hd':=hd d rfl;funext k;simp only[putT,dstW,upd];rcases key_cases k with⟨t,rfl⟩|⟨j,rfl⟩
   ·rw[storeOf_t,storeOf_t];simp only;by_cases e:t=d
    ·subst e;simp[hd']
    ·rw[if_neg (by unfold kt;omega),List.getElem?_set_ne (fun h=>e h.symm)]
   ·rw[if_neg (by unfold kt kb;omega),storeOf_b,storeOf_b]
theorem stepOp_store{P:Program}{E:ExtF}{call:CallF}{ops:Array Oper}{o:Oper}{s s':St}{e:Option Eff}(h:stepOp P E call ops o s=some (s',e))(hd:∀d,o.dst=some d->d<s.T.length) :
  storeOf s'=upd (writes ⟨o,s,e⟩) (storeOf s)/\s'.T.length=s.T.length:=by
 have hl:∀x,(putT o.dst x s.T).length=s.T.length:=fun x=>by cases o.dst<;>simp[putT]
 unfold stepOp at h;split at h
 ·split at h
  ·rename_i e0 he;split at h
   ·rename_i M' hM;simp only[sIz,pIz]at h;obtain⟨rfl,rfl⟩:=h;refine⟨?_,hl _⟩;rw[puts_store hM,putT_store (ds':=s.ds) (ob':=s.ob) hd];unfold writes outOf wrOf;rw[upd_append]
   ·cases h
  ·cases h
 ·simp only[sIz,pIz]at h;obtain⟨rfl,rfl⟩:=h;refine⟨?_,hl _⟩;rw[putT_store (ds':=s.ds) (ob':=s.ob) hd];unfold writes outOf wrOf;simp
def FD:List CR->(Nat->Bool)->(Nat->Option Val)->Nat->Option Val
 | [],_,F=>F
 |c::r,D,F=>FD r (fun i=>D (i+1)) (if D 0 then upd (writes c) F else F)
theorem FD_congr:∀{crs:List CR}{D D':Nat->Bool}{F F':Nat->Option Val}{k:Nat},(∀i c,crs[i]? =some c->k∈wKeys c->D i=D' i)->F k=F' k->FD crs D F k=FD crs D' F' k
 | [],D,D',F,F',k,_,hF=>hF
 | c :: r, D, D', F, F', k, h, hF => by
   unfold FD;refine FD_congr (fun i c' hc hk=>h (i+1) c' (by simpa using hc) hk) ?_;by_cases hk:k∈wKeys c
   ·have:=h 0 c (by simp) hk;rw[this];split
    ·exact upd_congr hF
    ·exact hF
   ·have hn:k ∉ (writes c).map (·.1):=by rw[wKeys_eq];exact hk
    split<;>split<;>(try simp only[upd_other hn])<;>exact hF
theorem runRec_ok{P:Program}{E:ExtF}{call:CallF}{ops:Array Oper}:∀{l:List Oper}{s s':St}{crs:List CR},runRec P E call ops l s=some (s',crs)->
  (∀o∈l,∀d,o.dst=some d->d<s.T.length)->
  crs.length=l.length/\s'.T.length=s.T.length/\Suf s.ob s'.ob/\storeOf s'=FD crs (fun _=>true) (storeOf s)/\
  ∀(i:Nat)(c:CR),crs[i]? =some c->l[i]? =some c.o/\c.s.T.length=s.T.length/\storeOf c.s=FD crs (fun j=>decide (j<i)) (storeOf s)/\
   ∃s1,stepOp P E call ops c.o c.s=some (s1,c.e)/\storeOf s1=FD crs (fun j=>decide (j<=i)) (storeOf s)/\Suf s1.ob s'.ob
 | [], s, s', crs, h, hd => by simp only[runRec,sIz,pIz]at h;obtain⟨rfl,rfl⟩:=h;exact⟨rfl,rfl,Suf.refl _,rfl,by simp⟩
 | o :: r, s, s', crs, h, hd => by
   unfold runRec at h;split at h
   ·rename_i s1 e hst;split at h
    ·rename_i s2 crs2 hr;simp only[sIz,pIz]at h;obtain⟨rfl,rfl⟩:=h;obtain⟨hs1,hl1⟩:=stepOp_store hst (hd o (by simp));obtain⟨h1,h2,h3,h4,h5⟩:=runRec_ok hr (fun o' ho' d hd'=>by rw[hl1];exact hd o' (by simp[ho']) d hd');have hsuf:=stepOp_suf hst;have hnone:∀(crs:List CR)(D:Nat->Bool)(F:Nat->Option Val),(∀i,D i=false)->FD crs D F=F:=by
      intro crs
      induction crs with
      |nil=>intro D F _;rfl
      |cons c r ih=>intro D F hD;unfold FD;rw[hD 0];exact ih _ _ fun i=>hD (i+1)
     refine⟨by simp[h1],by rw[h2,hl1],hsuf.trans h3,?_,?_⟩
     ·rw[h4,hs1];rfl
     ·intro i c hc;cases i with
      | zero =>
        simp only[List.getElem?_cons_zero,sIz]at hc;subst hc;refine⟨by simp,rfl,?_,s1,hst,?_,h3⟩
        ·rw[hnone _ _ _ (by simp)]
        ·unfold FD;simp only[Nat.le_refl,decide_true,if_true];rw[hnone _ _ _ (by simp)];exact hs1
      | succ i =>
        simp only[List.getElem?_cons_succ]at hc;obtain⟨g1,g2,g3,s3,g4,g5,g6⟩:=h5 i c hc;refine⟨by simpa using g1,by rw[g2,hl1],?_,s3,g4,?_,g6⟩
        ·rw[g3,hs1]
         conv=>rhs;unfold FD
         simp
        ·rw[g5,hs1]
         conv=>rhs;unfold FD
         simp
    ·cases h
   ·cases h
def force{α:Type}(n:Nat)(k:Nat->α):α:=match n with|0=>k 0|m+1=>k (m+1)
theorem force_eq{α:Type}(n:Nat)(k:Nat->α):force n k=k n:=by cases n<;>rfl
def maskOf:List Nat->Nat
 | []=>0
 |n::l=>maskOf l|||(1 <<<n)
theorem maskOf_ok{l:List Nat}{n:Nat}:n∈l->(maskOf l).testBit n=true:=by
 induction l with
 |nil=>intro h;simp at h
 | cons a l ih =>
   intro h;simp only[maskOf,Nat.testBit_or,Bool.or_eq_true];rcases List.mem_cons.1 h with rfl|h
   ·right;rw[Nat.one_shiftLeft,Nat.testBit_two_pow_self]
   ·exact .inl (ih h)
def ancU(A:List Nat):List Edge->Nat
 | []=>0
 |e::l=>if Region.binds .any e then ancU A l|||(1 <<<e.on)|||A.getD e.on 0 else ancU A l
theorem ancU_ok{A:List Nat}{i:Nat}:∀{l:List Edge},(ancU A l).testBit i=true->∃e∈l,Region.binds .any e=true/\(i=e.on\/(A.getD e.on 0).testBit i=true)
 | [],h=>by simp[ancU]at h
 | e :: l, h => by
   unfold ancU at h;split at h
   ·rename_i hb;simp only[Nat.testBit_or,Bool.or_eq_true]at h;rcases h with(h|h)|h
    ·obtain⟨e',h1,h2,h3⟩:=ancU_ok h;exact⟨e',by simp[h1],h2,h3⟩
    ·refine⟨e,by simp,hb,.inl ?_⟩;rw[Nat.one_shiftLeft,Nat.testBit_two_pow]at h;exact(show e.on=i by simpa using h).symm
    ·exact⟨e,by simp,hb,.inr h⟩
   ·obtain⟨e',h1,h2,h3⟩:=ancU_ok h;exact⟨e',by simp[h1],h2,h3⟩
def ancs:List Oper->List Nat->List Nat
 | [],acc=>acc
 |o::r,acc=>force (ancU acc o.after.toList) fun v=>ancs r (acc++ [v])
def okAnc(A:List Nat):List Oper->Nat->Bool
 | [],_=>true
 |o::r,j=>Nat.beq (A.getD j 0|||ancU A o.after.toList) (ancU A o.after.toList)&&(o.after.toList.all fun e=> !Region.binds .any e||Nat.blt e.on j)&&okAnc A r (j+1)
theorem okAnc_ok{A:List Nat}:∀{l:List Oper}{j:Nat},okAnc A l j=true->∀(i:Nat)(o:Oper),l[i]? =some o->
  (∀k,(A.getD (j+i) 0).testBit k=true->∃e∈o.after,Region.binds .any e=true/\(k=e.on\/(A.getD e.on 0).testBit k=true))/\(∀e∈o.after,Region.binds .any e=true->e.on<j+i)
 | [],j,_,i,o,h=>by simp at h
 | o0 :: r, j, h, i, o, ho => by
   simp only[okAnc,aTz]at h;obtain⟨⟨h1,h2⟩,h3⟩:=h;cases i with
   | zero =>
     simp only[List.getElem?_cons_zero,sIz]at ho;subst ho;refine⟨fun k hk=> ?_,fun e he hb=> ?_⟩
     ·rw[Nat.add_zero]at hk;have e1:=Nat.eq_of_beq_eq_true h1;have:(ancU A o0.after.toList).testBit k=true:=by rw[<-e1,Nat.testBit_or,hk];rfl
      obtain⟨e,he,hb,hc⟩:=ancU_ok this;exact⟨e,by simpa using he,hb,hc⟩
     ·have:=List.all_eq_true.1 h2 e (by simpa using he);simp only[hb,Bool.not_true,Bool.false_or]at this;exact Nat.blt_eq.mp this
   | succ i =>
     simp only[List.getElem?_cons_succ]at ho;have:=okAnc_ok h3 i o ho
     rwa [show j+1+i=j+(i+1)from by omega]at this
def okPrev(u w a:Nat):List (Nat×Nat×Nat)->Bool
 | []=>true
 |(i,u',w')::r=>((Nat.beq (w'&&& (u|||w)) 0&&Nat.beq (u'&&& w) 0)||a.testBit i)&&okPrev u w a r
def okPairs(A:List Nat)(ops:Array Oper)(N:Nat):List CR->Nat->List (Nat×Nat×Nat)->Bool
 | [],_,_=>true
 | c :: r, j, prev =>
   (match c.o.dst with|some d=>Nat.blt d N|none=>true)&&
   force (maskOf (usesOf ops c)) fun u=>force (maskOf (wKeys c)) fun w=>okPrev u w (A.getD j 0) prev&&okPairs A ops N r (j+1) ((j,u,w)::prev)
theorem and_zero{a b:Nat}(h:Nat.beq (a&&& b) 0=true){k:Nat}(ha:a.testBit k=true)(hb:b.testBit k=true):False:=by
 have h1:=Nat.eq_of_beq_eq_true h;have h2:(a&&& b).testBit k=true:=by rw[Nat.testBit_and,ha,hb];rfl
 rw[h1]at h2;simp at h2
theorem okPrev_ok{u w a:Nat}:∀{l:List (Nat×Nat×Nat)},okPrev u w a l=true->∀i u' w',(i,u',w')∈l->a.testBit i=true\/(∀k,(w'.testBit k=true->u.testBit k=true\/w.testBit k=true->False)/\(u'.testBit k=true->w.testBit k=true->False))
 | [],_,i,u',w',h=>by simp at h
 | (i0, u0, w0) :: r, h, i, u', w', hm => by
   simp only[okPrev,aTz,Bool.or_eq_true]at h;rcases List.mem_cons.1 hm with he|hm
   ·simp only[pIz]at he;obtain⟨rfl,rfl,rfl⟩:=he;rcases h.1 with⟨h1,h2⟩|h1
    ·refine .inr fun k=>⟨fun a b=> ?_,fun a b=>and_zero h2 a b⟩;refine and_zero h1 (k:=k) a ?_;rw[Nat.testBit_or];rcases b with b|b<;>simp[b]
    ·exact .inl h1
   ·exact okPrev_ok h.2 i u' w' hm
theorem okPairs_ok{A:List Nat}{ops:Array Oper}{N:Nat}:∀{crs:List CR}{j:Nat}{prev:List (Nat×Nat×Nat)},okPairs A ops N crs j prev=true->
  (∀(i:Nat)(c:CR),crs[i]? =some c->∀d,c.o.dst=some d->d<N)/\
  (∀(i:Nat)(c:CR),crs[i]? =some c->∀q u' w',(q,u',w')∈prev->(A.getD (j+i) 0).testBit q=true\/∀k,(w'.testBit k=true->k∈usesOf ops c\/k∈wKeys c->False)/\(u'.testBit k=true->k∈wKeys c->False))/\
  (∀(i i':Nat)(c c':CR),i<i'->crs[i]? =some c->crs[i']? =some c'->(A.getD (j+i') 0).testBit (j+i)=true\/∀k,(k∈wKeys c->k∈usesOf ops c'\/k∈wKeys c'->False)/\(k∈usesOf ops c->k∈wKeys c'->False))
 | [],j,prev,h=>⟨by simp,by simp,by simp⟩
 | c0 :: r, j, prev, h => by
   simp only[okPairs,force_eq,aTz]at h;obtain⟨h1,h2,h3⟩:=h;obtain⟨g1,g2,g3⟩:=okPairs_ok h3;refine⟨?_,?_,?_⟩
   ·intro i c hc d hd;cases i with
    | zero =>
      simp only[List.getElem?_cons_zero,sIz]at hc;subst hc;rw[hd]at h1;exact Nat.blt_eq.mp h1
    |succ i=>exact g1 i c (by simpa using hc) d hd
   ·intro i c hc q u' w' hm;cases i with
    | zero =>
      simp only[List.getElem?_cons_zero,sIz]at hc;subst hc;rcases okPrev_ok h2 q u' w' hm with h|h
      ·exact .inl h
      ·refine .inr fun k=>⟨fun a b=>(h k).1 a (b.imp maskOf_ok maskOf_ok),fun a b=>(h k).2 a (maskOf_ok b)⟩
    | succ i =>
      have:=g2 i c (by simpa using hc) q u' w' (by simp[hm])
      rwa [show j+1+i=j+(i+1)from by omega]at this
   ·intro i i' c c' hlt hc hc';obtain⟨p,rfl⟩:∃p,i'=p+1:=⟨i'-1,by omega⟩;cases i with
    | zero =>
      simp only[List.getElem?_cons_zero,sIz]at hc;subst hc;have:=g2 p c' (by simpa using hc') j _ _ (List.mem_cons_self ..);rw[show j+1+p=j+(p+1)from by omega]at this;rcases this with h|h
      ·exact .inl (by simpa using h)
      ·exact .inr fun k=>⟨fun a b=>(h k).1 (maskOf_ok a) b,fun a b=>(h k).2 (maskOf_ok a) b⟩
    | succ i =>
      have:=g3 i p c c' (by omega) (by simpa using hc) (by simpa using hc')
      rwa [show j+1+p=j+(p+1)from by omega,show j+1+i=j+(i+1)from by omega]at this
def okDraw(ops:Array Oper)(N:Nat)(crs:List CR):Bool:=
 let A:=ancs ops.toList []
 okAnc A ops.toList 0&&okPairs A ops N crs 0 []
def runDraw(P:Program)(E:ExtF)(call:CallF)(ops:Array Oper)(s:St):Option St:=
 match runRec P E call ops ops.toList s with
 |some (s',crs)=>if okDraw ops s.T.length crs then some s' else none
 |none=>none
def liveF(F:Nat->Option Val)(n:Nat):Prop:=∃b,F (kb n)=some (.k b)/\b.live=true
structure StoreAt (δ:List Deferred) (m:Nms) (F:Nat->Option Val) (N:Nat) (a:Act) (w:World):Prop where
 sz:a.tmps.size=N
 tm:∀t x,F (kt t)=some (.s x)->∃v,a.tmps[t]? =some v/\den m x=some v
 lo:∀t,t<N->∃x,F (kt t)=some (.s x)
 hi:∀t,N<=t->F (kt t)=none
 bl:∀n b,F (kb n)=some (.k b)->∃r,m n=some r/\BlkAt m w r b
 md:∀n r,m n=some r->∃b,F (kb n)=some (.k b)
 ok:NameOk m w
 inj:∀n n' r,liveF F n->liveF F n'->m n=some r->m n'=some r->n=n'
 df:a.defers=δ
theorem liveF_iff{s:St}{n:Nat}:liveF (storeOf s) n↔liveM s.M n:=by
 unfold liveF liveM;constructor
 ·rintro⟨b,hb,hl⟩;rw[storeOf_b]at hb;simp only[mIz,Val.k.injEq]at hb;obtain⟨y,hy,rfl⟩:=hb;exact⟨y,hy,hl⟩
 ·rintro⟨b,hb,hl⟩;exact⟨b,by rw[storeOf_b,hb];rfl,hl⟩
theorem liveF_eq(s:St):liveF (storeOf s)=liveM s.M:=funext fun _=>propext liveF_iff
theorem StoreAt.of{δ:List Deferred}{m:Nms}{s:St}{a:Act}{w:World}(h:StAtD δ m s a w):StoreAt δ m (storeOf s) s.T.length a w:=by
 have hl:=dens_length h.tm;simp only[Array.length_toList]at hl;refine⟨hl,?_,?_,?_,?_,?_,h.mem.ok,fun n n' r l1 l2=>h.mem.inj n n' r (liveF_iff.1 l1) (liveF_iff.1 l2),h.df⟩
 ·intro t x hx;rw[storeOf_t]at hx;simp only[mIz,Val.s.injEq]at hx;obtain⟨y,hy,rfl⟩:=hx;obtain⟨v,hv,hd⟩:=dens_get h.tm hy;exact⟨v,by simpa using hv,hd⟩
 ·intro t ht;exact⟨s.T[t],by rw[storeOf_t];simp[ht]⟩
 ·intro t ht;rw[storeOf_t,List.getElem?_eq_none ht];rfl
 ·intro n b hb;rw[storeOf_b]at hb;simp only[mIz,Val.k.injEq]at hb;obtain⟨y,hy,rfl⟩:=hb;exact h.mem.blk n y hy
 ·intro n r hr;have:=h.mem.dom n r hr;exact⟨s.M[n],by rw[storeOf_b];simp[this]⟩
theorem StoreAt.to{δ:List Deferred}{m:Nms}{s:St}{a:Act}{w:World}(h:StoreAt δ m (storeOf s) s.T.length a w):StAtD δ m s a w:=by
 refine⟨dens_of_get (by simpa using h.sz) ?_,h.df,⟨h.ok,fun n n' r l1 l2=>h.inj n n' r (liveF_iff.2 l1) (liveF_iff.2 l2),?_,?_⟩⟩
 ·intro j x hx;obtain⟨v,hv,hd⟩:=h.tm j x (by rw[storeOf_t,hx];rfl);exact⟨v,by simpa using hv,hd⟩
 ·intro n b hb;exact h.bl n b (by rw[storeOf_b,hb];rfl)
 ·intro n r hr;obtain⟨b,hb⟩:=h.md n r hr;rw[storeOf_b]at hb;rcases Nat.lt_or_ge n s.M.length with h'|h'
  ·exact h'
  ·rw[List.getElem?_eq_none h']at hb;cases hb
theorem StoreAt.put{δ:List Deferred}{m m':Nms}{F:Nat->Option Val}{N:Nat}{a:Act}{w w':World}{c:CR}{v:Value}{wr:List (Nat×Blk)}(h:StoreAt δ m F N a w)
  (hp:OpPost m w (liveF F) (outOf c) wr m' v w') (hwr:wrOf c=wr) (hd:∀d,c.o.dst=some d->d<N) :
  StoreAt δ m' (upd (writes c) F) N (a.put c.o.dst v) w'/\GoesL m (liveF F) w m' (liveF (upd (writes c) F)) w':=by
 have hwk:∀n b,(kb n,Val.k b)∈writes c↔(n,b)∈wr:=by
  intro n b;subst hwr;unfold writes dstW;constructor
  ·intro hm;rcases List.mem_append.1 hm with hm|hm
   ·split at hm<;>simp at hm
   ·simp only[List.mem_map,pIz,Val.k.injEq]at hm;obtain⟨p,hp,h1,h2⟩:=hm;have:p.1=n:=by unfold kb at h1;omega
    subst this;subst h2;exact hp
  ·intro hm;apply List.mem_append.2;right;simp only[List.mem_map];exact⟨_,hm,rfl⟩
 have hwkey:∀n,kb n∈(writes c).map (·.1)->∃b,upd (writes c) F (kb n)=some (.k b)/\(n,b)∈wr:=by
  intro n hn;obtain⟨u,h1,h2⟩:=upd_mem (F:=F) hn;cases u with
  |k b=>exact⟨b,h1,(hwk n b).1 h2⟩
  | s x =>
    exfalso
    unfold writes dstW at h2;rcases List.mem_append.1 h2 with hm|hm
    ·split at hm
     ·simp only[List.mem_singleton,pIz]at hm;have:=hm.1;unfold kb kt at this;omega
     ·simp at hm
    ·simp at hm
 have htk:∀t x,(kt t,Val.s x)∈writes c↔(c.o.dst=some t/\x=outOf c):=by
  intro t x;unfold writes dstW;constructor
  ·intro hm;rcases List.mem_append.1 hm with hm|hm
   ·split at hm
    ·rename_i d hd';simp only[List.mem_singleton,pIz,Val.s.injEq]at hm;have:t=d:=by have:=hm.1;unfold kt at this;omega
     exact⟨by rw[hd',this],hm.2⟩
    ·simp at hm
   ·simp at hm
  ·rintro⟨h1,rfl⟩;apply List.mem_append.2;left;rw[h1];simp
 have htkey:∀t,kt t∈(writes c).map (·.1)->c.o.dst=some t/\upd (writes c) F (kt t)=some (.s (outOf c)):=by
  intro t ht;obtain⟨u,h1,h2⟩:=upd_mem (F:=F) ht;cases u with
  | s x =>
    have:=(htk t x).1 h2;exact⟨this.1,by rw[h1,this.2]⟩
  | k b =>
    exfalso
    unfold writes dstW at h2;rcases List.mem_append.1 h2 with hm|hm
    ·split at hm<;>simp at hm
    ·simp only[List.mem_map,pIz]at hm;obtain⟨p,_,h3,_⟩:=hm;unfold kb kt at h3;omega
 have hput:∀t,c.o.dst≠some t->(a.put c.o.dst v).tmps[t]? =a.tmps[t]? :=by
  intro t ht;cases hdst:c.o.dst with
  |none=>rfl
  | some d =>
    have:d≠t:=fun e=>ht (by rw[hdst,e]);simp[Act.put,Array.getElem?_setIfInBounds_ne this]
 have hputs:∀d,c.o.dst=some d->(a.put c.o.dst v).tmps[d]? =some v:=by intro d hdst;have:=hd d hdst;have h2:=h.sz;have h3:d<a.tmps.size:=Nat.lt_of_lt_of_eq this h2.symm;simp only[hdst,Act.put];rw[Array.getElem?_setIfInBounds_self_of_lt h3]
 -- what counts behind it
 have hlv:∀n,liveF (upd (writes c) F) n->(∃p∈wr,p.1=n/\p.2.live=true)\/(liveF F n/\∀p∈wr,p.1≠n):=by
  rintro n ⟨b,hb,hl⟩;by_cases hk:kb n∈(writes c).map (·.1)
  ·obtain⟨b',h1,h2⟩:=hwkey n hk;rw[hb]at h1;simp only[sIz,Val.k.injEq]at h1;subst h1;exact .inl ⟨(n,b),h2,rfl,hl⟩
  ·rw[upd_other hk]at hb;refine .inr ⟨⟨b,hb,hl⟩,fun p hp' e=>hk ?_⟩;subst e;exact List.mem_map.2 ⟨(kb p.1,.k p.2),(hwk p.1 p.2).2 hp',rfl⟩
 have hnw:∀n r,m' n=some r->(∀p∈wr,p.1≠n)->m n=some r:=by
  intro n r hr hn;rcases hp.new n r hr with h|⟨⟨p,hp',he⟩,_⟩
  ·exact h
  ·exact absurd he (hn p hp')
 have hmix:∀n n' r,(∃p∈wr,p.1=n/\p.2.live=true)->liveF F n'->(∀p∈wr,p.1≠n')->m' n=some r->m' n'=some r->False:=by
  rintro n n' r ⟨p,hp',rfl,hpl⟩ l1 l2 hr hr';have h4:=hnw n' r hr' l2;rcases hp.src p hp' hpl r hr with h5|⟨q,hq,h5,h6⟩
  ·have:=h.ok.lt n' r h4;omega
  ·exact l2 q hq (h.inj q.1 n' r h6 l1 h5 h4)
 refine⟨⟨?_,?_,?_,?_,?_,?_,hp.ok,?_,?_⟩,hp.ext,hp.fr.mono fun r _ ⟨p,_,hr,hL⟩=>⟨p.1,hr,hL⟩,?_,?_⟩
 ·have h2:=h.sz;cases hdst:c.o.dst with
  |none=>simpa[Act.put]using h2
  |some d=>simpa[Act.put]using h2
 ·intro t x hx;rcases upd_get hx with h1|⟨h1,h2⟩
  ·obtain⟨h3,rfl⟩:=(htk t x).1 h1;exact⟨v,hputs t h3,hp.val⟩
  ·obtain⟨u,hu,hd'⟩:=h.tm t x h1;refine⟨u,?_,den_ext hp.ext hd'⟩;rw[hput t ?_]
   ·exact hu
   ·intro e;apply h2;exact List.mem_map.2 ⟨(kt t,.s (outOf c)),(htk t _).2 ⟨e,rfl⟩,rfl⟩
 ·intro t ht;by_cases hk:kt t∈(writes c).map (·.1)
  ·exact⟨_,(htkey t hk).2⟩
  ·rw[upd_other hk];exact h.lo t ht
 ·intro t ht;have hk:kt t ∉ (writes c).map (·.1):=by intro hk;exact absurd (hd t (htkey t hk).1) (Nat.not_lt.mpr ht)
  rw[upd_other hk];exact h.hi t ht
 ·intro n b hb;rcases upd_get hb with h1|⟨h1,h2⟩
  ·exact hp.blk (n,b) ((hwk n b).1 h1)
  ·obtain⟨r,hr,hat⟩:=h.bl n b h1;refine⟨r,hp.ext.n n r hr,fun hbl=>hat.ext hp.ext hr (hp.fr.block r (h.ok.lt n r hr) ?_) hbl⟩;rintro⟨p,hp',hpr,hpL⟩;have:=h.inj _ _ _ hpL ⟨b,h1,hbl⟩ hpr hr;subst this;exact h2 (List.mem_map.2 ⟨(kb p.1,.k p.2),(hwk p.1 p.2).2 hp',rfl⟩)
 ·intro n r hr;by_cases hk:kb n∈(writes c).map (·.1)
  ·obtain⟨b,hb,_⟩:=hwkey n hk;exact⟨b,hb⟩
  ·rw[upd_other hk];rcases hp.new n r hr with h1|⟨⟨p,hp',rfl⟩,_⟩
   ·exact h.md n r h1
   ·exact absurd (List.mem_map.2 ⟨(kb p.1,.k p.2),(hwk p.1 p.2).2 hp',rfl⟩) hk
 ·intro n n' r l1 l2 hr hr';rcases hlv n l1 with⟨p,hp',e,hpl⟩|⟨l3,l4⟩<;>rcases hlv n' l2 with⟨p',hp'',e',hpl'⟩|⟨l5,l6⟩
  ·subst e;subst e';exact hp.uni p hp' p' hp'' hpl hpl' r hr hr'
  ·exact(hmix n n' r ⟨p,hp',e,hpl⟩ l5 l6 hr hr').elim
  ·exact(hmix n' n r ⟨p',hp'',e',hpl'⟩ l3 l4 hr' hr).elim
  ·exact h.inj n n' r l3 l5 (hnw n r hr l4) (hnw n' r hr' l6)
 ·cases hdst:c.o.dst with
  |none=>exact h.df
  |some d=>exact h.df
 ·intro n r hr;rcases hp.new n r hr with h4|⟨_,h4|⟨q,h4,h5⟩⟩
  ·exact .inl h4
  ·exact .inr (.inl h4)
  ·exact .inr (.inr ⟨q,h4,h5⟩)
 ·intro n r hr hl;rcases hlv n hl with⟨p,hp',rfl,hpl⟩|⟨l3,_⟩
  ·exact hp.dd p hp' r hr hpl
  ·exact l3
theorem runRec_os{P:Program}{E:ExtF}{call:CallF}{ops:Array Oper}:∀{l:List Oper}{s s':St}{crs:List CR},runRec P E call ops l s=some (s',crs)->crs.map (·.o)=l
 | [],s,s',crs,h=>by simp only[runRec,sIz,pIz]at h;obtain⟨_,rfl⟩:=h;rfl
 | o :: r, s, s', crs, h => by
   unfold runRec at h;split at h
   ·split at h
    ·rename_i hr;simp only[sIz,pIz]at h;obtain⟨_,rfl⟩:=h;simp[runRec_os hr]
    ·cases h
   ·cases h
def Same(m:Nms)(T:List SV)(tmps:Array Value)(d:Nat):Prop:=
 match T[d]? with
 |some x=>∃v,tmps[d]? =some v/\den m x=some v
 |none=>tmps[d]? =none
theorem yS_same{m:Nms}{ops:Array Oper}{T:List SV}{tmps:Array Value}{j:Nat}(h:∀d,(ops[j]?).bind (·.dst)=some d->Same m T tmps d):yielded ops tmps j=yS ops T j:=by
 unfold yielded yS;cases hd:(ops[j]?).bind (·.dst)with
 |none=>simp
 | some d =>
   have h1:=h d hd;unfold Same at h1;simp only[Option.bind_some];cases ht:T[d]? with
   |none=>rw[ht]at h1;rw[h1]
   | some x =>
     rw[ht]at h1;obtain⟨v,hv,hx⟩:=h1;rw[hv];split
     ·rename_i b hb;simp only[sIz]at hb;subst hb;rcases den_bool hx with rfl|rfl<;>rfl
     ·rename_i hnb;split
      ·rename_i c hc;simp only[sIz]at hc;subst hc;simp only[den,sIz]at hx;subst hx;exact absurd rfl (hnb c)
      ·rename_i c hc;simp only[sIz]at hc;subst hc;simp only[den,sIz]at hx;subst hx;exact absurd rfl (hnb c)
      ·rfl
theorem wantedS_same{m:Nms}{ops:Array Oper}{T:List SV}{tmps:Array Value}{o:Oper}(h:∀j want,o.guard=some (j,want)->∀d,(ops[j]?).bind (·.dst)=some d->Same m T tmps d) :
  Region.wanted o (yielded ops tmps)=wantedS ops T o:=by
 unfold Region.wanted wantedS;cases hg:o.guard with
 |none=>rfl
 | some p =>
   obtain⟨j,want⟩:=p;simp only[yS_same (h j want hg)];cases yS ops T j with
   |none=>rfl
   |some c=>cases c<;>cases want<;>rfl
section
variable {P:Program} {E:ExtF} {call:CallF} {ops:Array Oper} {Q:Exit->Act->World->Prop}
theorem ancs_in{A:List Nat}{D:Nat->Bool}{listed:Array Bool}(hA:okAnc A ops.toList 0=true)(hD:∀i,D i=listed.getD i false)(hsz:listed.size=ops.size)
  (hcl:∀(j:Nat)(o:Oper),ops[j]? =some o->D j=true->∀e∈o.after,Region.binds .any e=true->D e.on=true) :
  ∀(j:Nat)(o:Oper),ops[j]? =some o->(∀e∈o.after,Region.binds .any e=true->D e.on=true)->∀k,(A.getD j 0).testBit k=true->D k=true:=by
 intro j
 induction j using Nat.strongRecOn with
 | _ j ih =>
   intro o ho hdir k hk;have h1:=okAnc_ok hA j o (by simpa using ho);rw[Nat.zero_add]at h1;obtain⟨e,he,hb,hc⟩:=h1.1 k hk;rcases hc with rfl|hc
   ·exact hdir e he hb
   ·have hlt:=h1.2 e he hb;have hDe:=hdir e he hb;have hin:e.on<ops.size:=by
     rw[hD]at hDe;rcases Nat.lt_or_ge e.on listed.size with h'|h'
     ·omega
     ·simp[Array.getElem?_eq_none h']at hDe
    have ho':ops[e.on]? =some ops[e.on]:=by simp[hin]
    exact ih e.on hlt _ ho' (hcl e.on _ ho' hDe) k hc
theorem draw_step(hP:Good P E)(hcall:CallOk P call){δ:List Deferred}{c:CR}{s1:St}{D:Nat->Option Val}{N:Nat}{m:Nms}{a:Act}{w:World}{i:Nat}
  (hi:ops[i]? =some c.o) (hst:stepOp P E call ops c.o c.s=some (s1,c.e)) (ho:ObsOk s1.ob) (hT:c.s.T.length=N) (hd:∀d,c.o.dst=some d->d<N)
  (hS:StoreAt δ m D N a w) (hag:∀k,k∈usesOf ops c\/k∈wKeys c->D k=storeOf c.s k) {K:Act->World->Prop}
  (hk:∀m' a' w',StoreAt δ m' (upd (writes c) D) N a' w'->GoesL m (liveF D) w m' (liveF (upd (writes c) D)) w'->K a' w'):wpOp P ops Q i K a w:=by
 have hsame:∀t,kt t∈usesOf ops c->Same m c.s.T a.tmps t:=by
  intro t ht;have h1:=hag _ (.inl ht);rw[storeOf_t]at h1;unfold Same;cases hx:c.s.T[t]? with
  | some x =>
    rw[hx]at h1;exact hS.tm t x h1
  | none =>
    have:N<=t:=by rw[<-hT];simpa using hx
    apply Array.getElem?_eq_none;rw[hS.sz];exact this
 have hwant:Region.wanted c.o (yielded ops a.tmps)=wantedS ops c.s.T c.o:=wantedS_same fun j want hg d hdd=>hsame d (by unfold usesOf;rw[hg];simp[hdd]);unfold wpOp;simp only[hi];unfold stepOp at hst;split at hst
 ·rename_i hw;rw[if_pos (by rw[hwant];exact hw)];split at hst
  ·rename_i e0 he;split at hst
   ·rename_i M' hM;simp only[sIz,pIz]at hst;obtain⟨rfl,he0⟩:=hst;left;have hout:outOf c=e0.x:=by unfold outOf;rw[<-he0]
    have hwr:wrOf c=e0.wr:=by unfold wrOf;rw[<-he0]
    have hgo:=evOp_ok hP hcall he (ObsOk.left (b:=c.s.ob) ho) (m:=m) (w:=w) (L:=liveF D) (ρv:=a.eval) hS.ok
     (fun p hp hle=>by
      have h1:=hag (kb p.1) (.inr (by unfold wKeys;rw[hwr];simp only[List.mem_append,List.mem_map];exact .inr ⟨p,hp,rfl⟩));rw[storeOf_b,List.getElem?_eq_none hle]at h1;cases hmp:m p.1 with
      |none=>rfl
      |some r0=>obtain⟨b,hb⟩:=hS.md _ _ hmp;rw[h1]at hb;cases hb)
     (fun n hn b hb=>by have h1:=hag (kb n) (.inl (by unfold usesOf;rw[<-he0];simp only[List.mem_append,List.mem_map];exact .inr ⟨n,hn,rfl⟩));rw[storeOf_b,hb]at h1;exact hS.bl n b h1)
     (fun n hn b hb hl=>by have h1:=hag (kb n) (.inl (by unfold usesOf;rw[<-he0];simp only[List.mem_append,List.mem_map];exact .inr ⟨n,hn,rfl⟩));rw[storeOf_b,hb]at h1;exact⟨b,h1,hl⟩) hS.inj
     (fun y hy=>by
      cases y with
      | tmp t =>
        have h1:=hsame t (by unfold usesOf;simp only[List.mem_append,List.mem_filterMap];exact .inl (.inl ⟨.tmp t,by simpa using hy,rfl⟩));unfold Same at h1;simp only[oper,Act.eval,List.getD];cases hx:c.s.T[t]? with
        |some x=>rw[hx]at h1;obtain⟨v,hv,hd'⟩:=h1;simp[hv,hd']
        |none=>rw[hx]at h1;simp only at h1;simp[h1,den,dens,undef]
      |const v=>exact den_ofV v
      |global g=>simp[oper,den,Act.eval]
      |func f=>simp[oper,den,dens,Act.eval])
    refine hgo a _ Q rfl fun v w' hpost=> ?_;obtain⟨m',hp⟩:=hpost;rw[<-hout]at hp;obtain⟨h1,h2⟩:=hS.put hp hwr hd;exact hk m' _ w' h1 h2
   ·cases hst
  ·cases hst
 ·rename_i hw;simp only[sIz,pIz]at hst;obtain⟨rfl,he0⟩:=hst;rw[if_neg (by rw[hwant];exact hw)];have hout:outOf c= .tup []:=by unfold outOf;rw[<-he0]
  have hwr:wrOf c=[]:=by unfold wrOf;rw[<-he0]
  obtain⟨h1,h2⟩:=hS.put (OpPost.pure hS.ok (by rw[hout];exact undef_den m)) hwr hd;exact hk m _ w h1 h2
theorem runDraw_any(hP:Good P E)(hcall:CallOk P call){s s':St}(h:runDraw P E call ops s=some s')(ho:ObsOk s'.ob){δ:List Deferred}{m:Nms}{a:Act}{w:World}(hs:StAtD δ m s a w)
  (hq:∀m' a' w',StAtD δ m' s' a' w'->Goes m s.M w m' s'.M w'->Q .normal a' w'):wpAny P .any ops Q ops.size (Array.replicate ops.size false) a {w with drawn:=w.drawn+1}:=by
 unfold runDraw at h;split at h
 ·rename_i s2 crs hrec;split at h
  ·rename_i hok;simp only[sIz]at h;subst h;unfold okDraw at hok;simp only[aTz]at hok;obtain⟨hA,hpairs⟩:=hok;generalize ancs ops.toList []=A at hA hpairs;obtain⟨p1,_,p3⟩:=okPairs_ok hpairs;have hos:=runRec_os hrec;have hdst:∀o∈ops.toList,∀d,o.dst=some d->d<s.T.length:=by intro o ho d hd;rw[<-hos]at ho;obtain⟨c,hc,rfl⟩:=List.mem_map.1 ho;obtain⟨i,hi⟩:=List.getElem?_of_mem hc;exact p1 i c hi d hd
   obtain⟨hlen,hTl,_,hfin,hcr⟩:=runRec_ok hrec hdst;have hlen':crs.length=ops.size:=by rw[hlen];simp
   have hex:∀i,i<ops.size->∃c,crs[i]? =some c:=fun i hi=>⟨crs[i]'(by omega),by simp[hlen',hi]⟩;have getIn:∀(listed:Array Bool)(j:Nat),listed.getD j false=true->j<listed.size:=by
    intro listed j hj;rcases Nat.lt_or_ge j listed.size with h'|h'
    ·exact h'
    ·simp[Array.getElem?_eq_none h']at hj
   have done:∀(listed:Array Bool)(m1:Nms)(a1:Act)(w1:World),(∀j,j<ops.size->listed.getD j false=true)->
     StoreAt δ m1 (FD crs (fun i=>listed.getD i false) (storeOf s)) s.T.length a1 w1->GoesL m (liveM s.M) w m1 (liveF (FD crs (fun i=>listed.getD i false) (storeOf s))) w1->Q .normal a1 w1:=by
    intro listed m1 a1 w1 hall hS hg;have hF:FD crs (fun i=>listed.getD i false) (storeOf s)=storeOf s2:=by
     rw[hfin];funext k;refine FD_congr (fun i c hc _=> ?_) rfl;refine hall i ?_;rcases Nat.lt_or_ge i crs.length with h'|h'
     ·omega
     ·rw[List.getElem?_eq_none h']at hc;cases hc
    rw[hF,<-hTl]at hS;rw[hF,liveF_eq]at hg;exact hq m1 a1 w1 hS.to hg
   have allIn:∀(listed:Array Bool),listed.size=ops.size->Region.ready .any ops listed=[]->∀j,j<ops.size->listed.getD j false=true:=by
    intro listed hsz hr j
    induction j using Nat.strongRecOn with
    | _ j ihj =>
      intro hj;cases hD:listed.getD j false with
      |true=>rfl
      | false =>
        exfalso
        have hmem:j∈Region.ready .any ops listed:=by
         refine mem_ready.2 ⟨?_,ops[j],by simp[hj],fun e he hb=> ?_⟩
         ·have:j<listed.size:=by omega
          simp[this]at hD ⊢;exact hD
         ·have h1:=okAnc_ok hA j ops[j] (by simp[hj]);rw[Nat.zero_add]at h1;have hlt:=h1.2 e he hb;exact ihj e.on hlt (by omega)
        rw[hr]at hmem;cases hmem
   have main:∀(fuel:Nat)(listed:Array Bool)(R:List Nat)(m1:Nms)(a1:Act)(w1:World),listed.size=ops.size->
     (∀(j:Nat)(o:Oper),ops[j]? =some o->listed.getD j false=true->∀e∈o.after,Region.binds .any e=true->listed.getD e.on false=true)->
     (∀j,j<ops.size->listed.getD j false=true\/j∈R)->R.length<=fuel->
     StoreAt δ m1 (FD crs (fun i=>listed.getD i false) (storeOf s)) s.T.length a1 w1->GoesL m (liveM s.M) w m1 (liveF (FD crs (fun i=>listed.getD i false) (storeOf s))) w1->wpAny P .any ops Q fuel listed a1 w1:=by
    intro fuel
    induction fuel with
    | zero =>
      intro listed R m1 a1 w1 hsz hcl hrem hR hS hg;have hR0:R=[]:=by cases R with|nil=>rfl|cons x l=>simp at hR
      have hall:∀j,j<ops.size->listed.getD j false=true:=fun j hj=>(hrem j hj).resolve_right (by rw[hR0];simp);refine⟨?_,done listed m1 a1 w1 hall hS hg⟩;cases hr:Region.ready .any ops listed with
      |nil=>rfl
      | cons x l =>
        exfalso
        have hx:x∈Region.ready .any ops listed:=by rw[hr];simp
        obtain⟨h1,o,ho,_⟩:=mem_ready.1 hx;have hlt:x<ops.size:=(Array.getElem?_eq_some_iff.1 ho).1;have h2:=hall x hlt;have hlt2:=getIn listed x h2;simp[hlt2]at h1 h2;rw[h1]at h2;cases h2
    | succ fuel ih =>
      intro listed R m1 a1 w1 hsz hcl hrem hR hS hg;refine⟨fun hr=>done listed m1 a1 w1 (allIn listed hsz hr) hS hg,fun i hi=> ?_⟩;obtain⟨hun,o,hio,hpre⟩:=mem_ready.1 hi;have hlt:i<ops.size:=(Array.getElem?_eq_some_iff.1 hio).1;have hltl:i<listed.size:=by omega
      have hDi:listed.getD i false=false:=by simp[hltl]at hun ⊢;exact hun
      obtain⟨c,hc⟩:=hex i hlt;obtain⟨g1,g2,g3,s1,g4,g5,g6⟩:=hcr i c hc;have hco:ops[i]? =some c.o:=by simpa using g1
      have hoc:o=c.o:=by rw[hio]at hco;exact Option.some.inj hco
      subst hoc;have hanc:=ancs_in (D:=fun i=>listed.getD i false) (listed:=listed) hA (fun _=>rfl) hsz hcl;have order:∀k,(k∈usesOf ops c\/k∈wKeys c)->∀(i':Nat)(c':CR),crs[i']? =some c'->k∈wKeys c'->i'≠i->listed.getD i' false=decide (i'<i):=by
       intro k hk i' c' hc' hk' hne;have hlt':i'<ops.size:=by
        rcases Nat.lt_or_ge i' crs.length with h'|h'
        ·omega
        ·rw[List.getElem?_eq_none h']at hc';cases hc'
       rcases Nat.lt_or_gt_of_ne hne with hl|hl
       ·rw[dT hl];rcases p3 i' i c' c hl hc' hc with h1|h1
        ·rw[Nat.zero_add,Nat.zero_add]at h1;exact hanc i _ hio hpre i' h1
        ·exact((h1 k).1 hk' hk).elim
       ·rw[dF (by omega)];cases hD':listed.getD i' false with
        |false=>rfl
        | true =>
          exfalso
          have hio':ops[i']? =some ops[i']:=by simp[hlt']
          rcases p3 i i' c c' hl hc hc' with h1|h1
          ·rw[Nat.zero_add,Nat.zero_add]at h1;have:=hanc i' _ hio' (hcl i' _ hio' hD') i h1;exact absurd (hDi.symm.trans this) (by decide)
          ·rcases hk with hk|hk
           ·exact(h1 k).2 hk hk'
           ·exact(h1 k).1 hk (.inr hk')
      have hag:∀k,k∈usesOf ops c\/k∈wKeys c->FD crs (fun i=>listed.getD i false) (storeOf s) k=storeOf c.s k:=by
       intro k hk;rw[g3];refine FD_congr (fun i' c' hc' hk'=> ?_) rfl;by_cases hne:i'=i
       ·subst hne;rw[hDi];simp
       ·exact order k hk i' c' hc' hk' hne
      have hds:∀d,c.o.dst=some d->d<s.T.length:=fun d hd=>p1 i c hc d hd;obtain⟨hs1,_⟩:=stepOp_store g4 (by rw[g2];exact hds);have hset:∀j,(listed.setIfInBounds i true).getD j false=if j=i then true else listed.getD j false:=by
       intro j;by_cases e:j=i
       ·subst e;simp[hltl]
       ·rw[if_neg e,getD_set_ne false (fun h=>e h.symm)]
      have hFD:FD crs (fun j=>(listed.setIfInBounds i true).getD j false) (storeOf s)=upd (writes c) (FD crs (fun i=>listed.getD i false) (storeOf s)):=by
       funext k;by_cases hk:k∈wKeys c
       ·have h1:k∈(writes c).map (·.1):=by rw[wKeys_eq];exact hk
        have h2:upd (writes c) (FD crs (fun i=>listed.getD i false) (storeOf s)) k=storeOf s1 k:=by rw[hs1];exact upd_same h1
        rw[h2,g5];refine FD_congr (fun i' c' hc' hk'=> ?_) rfl;rw[hset];by_cases hne:i'=i
        ·subst hne;simp
        ·rw[if_neg hne,order k (.inr hk) i' c' hc' hk' hne];by_cases hl:i'<i
         ·simp[hl,Nat.le_of_lt hl]
         ·have:¬i'<=i:=by omega
          simp[hl,this]
       ·have h1:k ∉ (writes c).map (·.1):=by rw[wKeys_eq];exact hk
        rw[upd_other h1];refine FD_congr (fun i' c' hc' hk'=> ?_) rfl;rw[hset];by_cases hne:i'=i
        ·subst hne;rw[hc]at hc';simp only[sIz]at hc';subst hc';exact absurd hk' hk
        ·rw[if_neg hne]
      have ho1:ObsOk s1.ob:=g6.ok ho;refine draw_step hP hcall hco g4 ho1 g2 hds hS hag fun m' a' w' hS' hg'=> ?_;rw[<-hFD]at hS' hg';refine ih (listed.setIfInBounds i true) (R.erase i) m' a' w' (by simpa using hsz) ?_ ?_ ?_ hS' (hg.trans hg')
      ·intro j oj hj hDj e he hb;rw[hset];by_cases e1:e.on=i
       ·rw[if_pos e1]
       ·rw[if_neg e1];rw[hset]at hDj;by_cases e2:j=i
        ·subst e2;rw[hio]at hj;simp only[sIz]at hj;subst hj;exact hpre e he hb
        ·rw[if_neg e2]at hDj;exact hcl j oj hj hDj e he hb
      ·intro j hj;rw[hset];by_cases e2:j=i
       ·left;rw[if_pos e2]
       ·rw[if_neg e2];rcases hrem j hj with h1|h1
        ·exact .inl h1
        ·exact .inr ((List.mem_erase_of_ne e2).2 h1)
      ·have hin:i∈R:=(hrem i hlt).resolve_left (by rw[hDi];simp);rw[List.length_erase_of_mem hin];omega
   have hnone:∀(crs:List CR)(D:Nat->Bool)(F:Nat->Option Val),(∀i,D i=false)->FD crs D F=F:=by
    intro crs
    induction crs with
    |nil=>intro D F _;rfl
    |cons c r ih=>intro D F hD;unfold FD;rw[hD 0];exact ih _ _ fun i=>hD (i+1)
   have hfalse:∀j,(Array.replicate ops.size false).getD j false=false:=by intro j;rcases Nat.lt_or_ge j ops.size with h'|h'<;>simp[h']
   have hs':StAtD δ m s a {w with drawn:=w.drawn+1}:=⟨hs.tm,hs.df,⟨⟨hs.mem.ok.lt⟩,hs.mem.inj,fun n b hb=>let ⟨r,hr,hat⟩:=hs.mem.blk n b hb;⟨r,hr,hat.ext (Ext.refl m) hr rfl⟩,hs.mem.dom⟩⟩;refine main ops.size _ (List.range ops.size) m a _ (by simp) ?_ ?_ (by simp) ?_ ?_
   ·intro j o _ hD;rw[hfalse]at hD;cases hD
   ·intro j hj;right;simpa using hj
   ·rw[hnone _ _ _ hfalse];exact StoreAt.of hs'
   ·rw[hnone _ _ _ hfalse,liveF_eq];exact⟨Ext.refl m,Fr.drew _ w,fun n r h=> .inl h,fun _ _ _ h=>h⟩
  ·cases h
 ·cases h
theorem runDraw_ok(hP:Good P E)(hcall:CallOk P call){s s':St}(h:runDraw P E call ops s=some s')(ho:ObsOk s'.ob){δ:List Deferred}{m:Nms}{a:Act}{w:World}(hs:StAtD δ m s a w){id:Nat}
  (hq:∀m' a' w',StAtD δ m' s' a' w'->Goes m s.M w m' s'.M w'->Q .normal a' w'):(Code.region id ops true).wp P Q a w:=wp_region_any hP.mixed (runDraw_any hP hcall h ho hs hq)
end
inductive Ex where
 |normal
 |exit (id:Nat)
 |ret
abbrev RunF:=Code->St->Option (Ex×St)
def codeStep(P:Program)(E:ExtF)(call:CallF)(self:RunF):RunF
 | .skip,s=>some (.normal,s)
 | .region _ ops draw, s =>
   if draw then(match runDraw P E call ops s with|some s'=>some (.normal,s')|none=>none)
   else(match runOps P E call ops ops.toList s with|some s'=>some (.normal,s')|none=>none)
 | .seq a b, s => match self a s with
   |some (.normal,s')=>self b s'
   |r=>r
 | .cond c x y, s => match oper s.T c with
   | .b true=>self x s
   | .b false=>self y s
   |_=>none
 | .block id body, s => match self body s with
   |some (.exit i,s')=>if Nat.beq i id then some (.normal,s')else some (.exit i,s')
   |r=>r
 | .loop body, s => match self body s with
   |some (.normal,s')=>self (.loop body) s'
   |r=>r
 | .exit id,s=>some (.exit id,s)
 | .scope body,s=>self body s
 | .label _,s=>some (.normal,s)
 | .ret,s=>some (.ret,s)
 |_,_=>none
def resultOf(P:Program)(s:St):ResultVar->Option SV
 | .tmp t=>some (s.T.getD t (.tup []))
 | .cell a t => match s.T.getD a (.tup []) with
   | .p n off => match s.M[n]? with
     |some b=>loadL P t b off
     |none=>none
   |_=>none
def resultS(P:Program)(fn:Func)(s:St):Option SV:=
 match fn.results.toList.mapM (resultOf P s)with
 |some [x]=>some x
 |some l=>some (.tup l)
 |none=>none
abbrev OracleF:=FuncId->Option (List SV->List Blk->Dec->Option (SV×List Blk×Dec×Obs))
def callStep(P:Program)(O:OracleF)(code:RunF):CallF:=fun g args M ds=>
 match O g with
 |some f=>f args M ds
 | none => match P.funcs[g]? with
   | some fn => match fn.body with
     | some c => match code c ⟨args ++ List.replicate (fn.ntmps - args.length) (.tup []), M, ds, []⟩ with
       | some (.normal, s) => match resultS P fn s with
         |some x=>some (x,s.M,s.ds,s.ob)
         |none=>none
       | some (.ret, s) => match resultS P fn s with
         |some x=>some (x,s.M,s.ds,s.ob)
         |none=>none
       |_=>none
     |none=>none
   |none=>none
def run(P:Program)(E:ExtF)(O:OracleF)(n:Nat):CallF×RunF:=
 Nat.rec (motive:=fun _=>CallF×RunF) (fun _ _ _ _=>none,fun _ _=>none) (fun _ ih=>(callStep P O ih.2,codeStep P E ih.1 ih.2)) n
theorem run_succ(P:Program)(E:ExtF)(O:OracleF)(n:Nat):run P E O (n+1)=(callStep P O (run P E O n).2,codeStep P E (run P E O n).1 (run P E O n).2):=rfl
def OracleOk(P:Program)(O:OracleF):Prop:=
 ∀g f,O g=some f->∀args M ds x M' ds' ob,f args M ds=some (x,M',ds',ob)->ObsOk ob->∀m w vs,dens m args=some vs->MemAt m w M->
  Calls P g vs.toArray w fun e w'=>∃m' v,e= .returned v/\CallPost m w M x M' m' v w'
def exOf:Ex->Exit
 | .normal=> .normal
 | .exit id=> .exit id
 | .ret=> .ret
def SufOk(code:RunF):Prop:=∀c s ex s',code c s=some (ex,s')->Suf s.ob s'.ob/\s.M.length<=s'.M.length
def CodeOk(P:Program)(code:RunF):Prop:=
 ∀c s ex s',code c s=some (ex,s')->ObsOk s'.ob->∀{δ:List Deferred}m a w(Q:Exit->Act->World->Prop),StAtD δ m s a w->
  (∀m' a' w',StAtD δ m' s' a' w'->Goes m s.M w m' s'.M w'->Q (exOf ex) a' w')->c.wp P Q a w
def LoopOk(P:Program)(code:RunF)(n:Nat):Prop:=
 ∀body s ex s',code (.loop body) s=some (ex,s')->ObsOk s'.ob->∀{δ:List Deferred}m a w(Q:Exit->Act->World->Prop),StAtD δ m s a w->
  (∀m' a' w',StAtD δ m' s' a' w'->Goes m s.M w m' s'.M w'->Q (exOf ex) a' w')->Code.rounds P body Q n a w
theorem stepOp_len{P:Program}{E:ExtF}{call:CallF}{ops:Array Oper}{o:Oper}{s s':St}{e:Option Eff}(h:stepOp P E call ops o s=some (s',e)):s.M.length<=s'.M.length:=by
 unfold stepOp at h;split at h
 ·split at h
  ·split at h
   ·rename_i M' hM;simp only[sIz,pIz]at h;obtain⟨rfl,_⟩:=h;exact(puts_ok hM).1
   ·cases h
  ·cases h
 ·simp only[sIz,pIz]at h;obtain⟨rfl,_⟩:=h;exact Nat.le_refl _
theorem runOps_len{P:Program}{E:ExtF}{call:CallF}{ops:Array Oper}:∀{l:List Oper}{s s':St},runOps P E call ops l s=some s'->s.M.length<=s'.M.length
 | [],s,s',h=>by simp only[runOps,sIz]at h;subst h;exact Nat.le_refl _
 | o :: r, s, s', h => by
   unfold runOps at h;split at h
   ·rename_i hs;exact Nat.le_trans (stepOp_len hs) (runOps_len h)
   ·cases h
theorem runRec_runOps{P:Program}{E:ExtF}{call:CallF}{ops:Array Oper}:∀{l:List Oper}{s s':St}{crs:List CR},runRec P E call ops l s=some (s',crs)->runOps P E call ops l s=some s'
 | [],s,s',crs,h=>by simp only[runRec,sIz,pIz]at h;obtain⟨rfl,_⟩:=h;rfl
 | o :: r, s, s', crs, h => by
   unfold runRec at h;split at h
   ·rename_i s1 e hs;split at h
    ·rename_i hr;simp only[sIz,pIz]at h;obtain⟨rfl,_⟩:=h;unfold runOps;rw[hs];exact runRec_runOps hr
    ·cases h
   ·cases h
theorem runDraw_runOps{P:Program}{E:ExtF}{call:CallF}{ops:Array Oper}{s s':St}(h:runDraw P E call ops s=some s'):runOps P E call ops ops.toList s=some s':=by
 unfold runDraw at h;split at h
 ·rename_i hr;split at h
  ·simp only[sIz]at h;subst h;exact runRec_runOps hr
  ·cases h
 ·cases h
section
variable {P:Program} {E:ExtF} {O:OracleF}
theorem codeStep_suf{call:CallF}{self:RunF}(hs:SufOk self):SufOk (codeStep P E call self):=by
 intro c s ex s' h;unfold codeStep at h;split at h
 ·simp only[sIz,pIz]at h;obtain⟨_,rfl⟩:=h;exact⟨Suf.refl _,Nat.le_refl _⟩
 ·split at h
  ·split at h
   ·rename_i hd;simp only[sIz,pIz]at h;obtain⟨_,rfl⟩:=h;exact⟨runOps_suf (runDraw_runOps hd),runOps_len (runDraw_runOps hd)⟩
   ·cases h
  ·split at h
   ·rename_i hd;simp only[sIz,pIz]at h;obtain⟨_,rfl⟩:=h;exact⟨runOps_suf hd,runOps_len hd⟩
   ·cases h
 ·split at h
  ·rename_i h1;have a:=hs _ _ _ _ h1;have b:=hs _ _ _ _ h;exact⟨a.1.trans b.1,Nat.le_trans a.2 b.2⟩
  ·exact hs _ _ _ _ h
 ·split at h
  ·exact hs _ _ _ _ h
  ·exact hs _ _ _ _ h
  ·cases h
 ·split at h
  ·rename_i h1;have a:=hs _ _ _ _ h1;split at h<;>(simp only[sIz,pIz]at h;obtain⟨_,rfl⟩:=h;exact a)
  ·exact hs _ _ _ _ h
 ·split at h
  ·rename_i h1;have a:=hs _ _ _ _ h1;have b:=hs _ _ _ _ h;exact⟨a.1.trans b.1,Nat.le_trans a.2 b.2⟩
  ·exact hs _ _ _ _ h
 ·simp only[sIz,pIz]at h;obtain⟨_,rfl⟩:=h;exact⟨Suf.refl _,Nat.le_refl _⟩
 ·exact hs _ _ _ _ h
 ·simp only[sIz,pIz]at h;obtain⟨_,rfl⟩:=h;exact⟨Suf.refl _,Nat.le_refl _⟩
 ·simp only[sIz,pIz]at h;obtain⟨_,rfl⟩:=h;exact⟨Suf.refl _,Nat.le_refl _⟩
 ·cases h
theorem codeStep_ok(hP:Good P E){call:CallF}(hcall:CallOk P call){self:RunF}{n:Nat}(hs:SufOk self)(hc:CodeOk P self)(hl:LoopOk P self n) :
  CodeOk P (codeStep P E call self)/\LoopOk P (codeStep P E call self) (n+1):=by
 have loop:LoopOk P (codeStep P E call self) (n+1):=by
  intro body s ex s' h ho δ m a w Q hst hq;rw[rounds_succ];simp only[codeStep]at h;split at h
  ·rename_i s1 h1;refine hc _ _ _ _ h1 ((hs _ _ _ _ h).1.ok ho) m a w _ hst fun m' a' w' hst' hg=> ?_;exact hl _ _ _ _ h ho m' a' w' Q hst' fun m2 a2 w2 h2 hg2=>hq m2 a2 w2 h2 (hg.trans hg2)
  ·rename_i r hr;refine hc _ _ _ _ h ho m a w _ hst fun m' a' w' hst' hg=> ?_;have:=hq m' a' w' hst' hg;cases ex with
   |normal=>exact absurd h (hr s')
   |exit id=>exact this
   |ret=>exact this
 refine⟨?_,loop⟩;intro c s ex s' h ho δ m a w Q hst hq;cases c with
 |loop body=>exact wp_loop_rounds (n+1) (loop body s ex s' h ho m a w Q hst hq)
 | skip =>
   simp only[codeStep,sIz,pIz]at h;obtain⟨rfl,rfl⟩:=h;exact wp_skip (hq m a w hst (Goes.refl m s.M w))
 | label l =>
   simp only[codeStep,sIz,pIz]at h;obtain⟨rfl,rfl⟩:=h;exact wp_label (hq m a w hst (Goes.refl m s.M w))
 | exit id =>
   simp only[codeStep,sIz,pIz]at h;obtain⟨rfl,rfl⟩:=h;exact wp_exit (hq m a w hst (Goes.refl m s.M w))
 | ret =>
   simp only[codeStep,sIz,pIz]at h;obtain⟨rfl,rfl⟩:=h;exact wp_ret (hq m a w hst (Goes.refl m s.M w))
 |goto l=>simp[codeStep]at h
 |refuse y=>simp[codeStep]at h
 |rangeFunc f p x b=>simp[codeStep]at h
 | region id ops draw =>
   simp only[codeStep]at h;split at h
   ·rename_i hd;subst hd;split at h
    ·rename_i s1 h1;simp only[sIz,pIz]at h;obtain⟨rfl,rfl⟩:=h;exact runDraw_ok hP hcall h1 ho hst hq
    ·cases h
   ·rename_i hd;have hd':draw=false:=by simpa using hd
    subst hd';split at h
    ·rename_i s1 h1;simp only[sIz,pIz]at h;obtain⟨rfl,rfl⟩:=h;exact wp_region_list (runOps_ok hP hcall h1 ho hst hq)
    ·cases h
 | seq x y =>
   simp only[codeStep]at h;split at h
   ·rename_i s1 h1;refine wp_seq (hc _ _ _ _ h1 ((hs _ _ _ _ h).1.ok ho) m a w _ hst fun m' a' w' hst' hg=> ?_);exact hc _ _ _ _ h ho m' a' w' Q hst' fun m2 a2 w2 h2 hg2=>hq m2 a2 w2 h2 (hg.trans hg2)
   ·rename_i r hr;refine wp_seq (hc _ _ _ _ h ho m a w _ hst fun m' a' w' hst' hg=> ?_);have:=hq m' a' w' hst' hg;cases ex with
    |normal=>exact absurd h (hr s')
    |exit id=>exact this
    |ret=>exact this
 | cond c x y =>
   simp only[codeStep]at h;have hv:=oper_ok hst.tm c;split at h
   ·rename_i hb;rw[hb]at hv;simp only[den,sIz]at hv;exact wp_cond_true hv.symm (hc _ _ _ _ h ho m a w Q hst hq)
   ·rename_i hb;rw[hb]at hv;simp only[den,sIz]at hv;exact wp_cond_false hv.symm (hc _ _ _ _ h ho m a w Q hst hq)
   ·cases h
 | block id body =>
   simp only[codeStep]at h;split at h
   ·rename_i i s1 h1;split at h
    ·rename_i he;simp only[sIz,pIz]at h;obtain⟨rfl,rfl⟩:=h;have he':=Nat.eq_of_beq_eq_true he;refine wp_block (hc _ _ _ _ h1 ho m a w _ hst fun m' a' w' hst' hg=> ?_);show(if i=id then _ else _);rw[if_pos he'];exact hq m' a' w' hst' hg
    ·rename_i he;simp only[sIz,pIz]at h;obtain⟨rfl,rfl⟩:=h;refine wp_block (hc _ _ _ _ h1 ho m a w _ hst fun m' a' w' hst' hg=> ?_);show(if i=id then _ else _);rw[if_neg (fun e=>he (by rw[e];exact Nat.beq_refl id))];exact hq m' a' w' hst' hg
   ·rename_i r hr;refine wp_block (hc _ _ _ _ h ho m a w _ hst fun m' a' w' hst' hg=> ?_);have:=hq m' a' w' hst' hg;cases ex with
    |normal=>exact this
    |exit i=>exact absurd h (hr i s')
    |ret=>exact this
 | scope body =>
   simp only[codeStep]at h;refine wp_scope_straight (hc _ _ _ _ h ho m a w _ hst fun m' a' w' hst' hg=> ?_);have:=hq m' a' w' hst' hg;cases ex<;>exact this
def resM(a:Act):ResultVar->Sem Value
 | .tmp t=>pure (a.tmps.getD t undef)
 | .cell c t=>do loadVar t (<-asAddr (a.tmps.getD c undef))
theorem resultOf_ok{δ:List Deferred}{s:St}{m:Nms}{a:Act}{w:World}(hst:StAtD δ m s a w){r:ResultVar}{x:SV}(h:resultOf P s r=some x) :
  ∃v,den m x=some v/\(resM a r).run P w= .ok v w:=by
 cases r with
 | tmp t =>
   simp only[resultOf,sIz]at h;subst h;exact⟨_,oper_ok hst.tm (.tmp t),rfl⟩
 | cell c t =>
   simp only[resultOf]at h;have hv:=oper_ok hst.tm (.tmp c);simp only[oper]at hv;split at h
   ·rename_i n off hp;rw[hp]at hv;split at h
    ·rename_i b hb;obtain⟨r,hr,hat⟩:=hst.mem.blk n b hb;obtain⟨v,hd,hrun⟩:=loadL_ok h hat;refine⟨v,hd,?_⟩;simp only[den,hr,Option.map_some,sIz]at hv;simp only[Act.eval]at hv;simp only[resM,<-hv,asAddr,Sem.run_bind,Sem.run_pure,Result.andThen_ok,hrun]
    ·cases h
   ·cases h
theorem run_mapM_results{f:ResultVar->Sem Value}{s:St}{m:Nms}{w:World}(hf:∀r x,resultOf P s r=some x->∃v,den m x=some v/\(f r).run P w= .ok v w) :
  ∀{l:List ResultVar}{xs:List SV},l.mapM (resultOf P s)=some xs->∃vs,dens m xs=some vs/\(l.mapM f).run P w= .ok vs w
 | [],xs,h=>by simp at h;subst h;exact⟨[],by simp[dens],by simp⟩
 | r :: l, xs, h => by simp only[List.mapM_cons,Option.bind_eq_bind,Option.bind_eq_some_iff,pure,sIz]at h;obtain⟨x,hx,ys,hys,rfl⟩:=h;obtain⟨v,hv,hr⟩:=hf r x hx;obtain⟨us,hus,hl⟩:=run_mapM_results hf hys;refine⟨v::us,dens_cons hv hus,?_⟩;simp[List.mapM_cons,hr,hl]
theorem resultS_ok{δ:List Deferred}{s:St}{m:Nms}{a:Act}{w:World}(hst:StAtD δ m s a w){fn:Func}{x:SV}(h:resultS P fn s=some x) :
  ∃v,den m x=some v/\(results fn a.tmps).run P w= .ok v w:=by
 unfold resultS at h;have key:∀xs,fn.results.toList.mapM (resultOf P s)=some xs->∃vs,dens m xs=some vs/\(results fn a.tmps).run P w= .ok (if h:vs.toArray.size=1 then vs.toArray[0]else .tuple vs.toArray) w:=by
  intro xs hxs;obtain⟨vs,h1,h2⟩:=run_mapM_results (f:=resM a) (w:=w) (m:=m) (fun r x hr=>resultOf_ok hst hr) hxs;refine⟨vs,h1,?_⟩;unfold results;rw[Sem.run_bind];have e:(fn.results.mapM (resM a)).run P w= .ok vs.toArray w:=by rw[<-Array.toArray_toList (xs:=fn.results),List.mapM_toArray,Sem.run_map,h2];rfl
  erw [e]
  rfl
 split at h
 ·rename_i y hy;simp only[sIz]at h;subst h;obtain⟨vs,h1,h2⟩:=key _ hy;obtain⟨v,us,h3,h4,rfl⟩:=dens_cons_some.1 h1;simp only[dens,sIz]at h4;subst h4;exact⟨v,h3,by simpa using h2⟩
 ·rename_i l hne hy;simp only[sIz]at h;subst h;obtain⟨vs,h1,h2⟩:=key _ hy;refine⟨.tuple vs.toArray,by simp[den,h1],?_⟩;rw[h2];have hl:=dens_length h1;rw[dif_neg];intro h1';simp only[List.size_toArray]at h1'
  match l,hl with
  | [x],_=>exact hne x rfl
  | [],hl=>rw[List.length_nil]at hl;omega
  |_::_::_,hl=>rw[List.length_cons,List.length_cons]at hl;omega
 ·cases h
theorem callStep_ok{code:RunF}(hO:OracleOk P O)(hs:SufOk code)(hc:CodeOk P code):CallOk P (callStep P O code):=by
 intro g args M ds x M' ds' ob h ho m w vs hvs hM;unfold callStep at h;split at h
 ·rename_i f hf;exact hO g f hf args M ds x M' ds' ob h ho m w vs hvs hM
 ·split at h
  ·rename_i fn hfn;split at h
   ·rename_i c hb;have fin:∀ex s,(ex= .normal\/ex= .ret)->code c ⟨args++List.replicate (fn.ntmps-args.length) (.tup []),M,ds,[]⟩=some (ex,s)->resultS P fn s=some x->s.M=M'->s.ob=ob->
      Calls P g vs.toArray w fun e w'=>∃m' v,e= .returned v/\CallPost m w M x M' m' v w':=by
     intro ex s hex hrun hres e1 e2;subst e1 e2;have hl:=dens_length hvs;refine calls_of_wp hfn hb ?_;have htm:dens m (args++List.replicate (fn.ntmps-args.length) (.tup []))=some (vs.toArray++Array.replicate (fn.ntmps-vs.toArray.size) undef).toList:=by have:=dens_append hvs (dens_replicate (undef_den m) (fn.ntmps-args.length));rw[this];simp[hl]
     refine hc _ _ _ _ hrun ho m _ w _ ⟨htm,rfl,hM⟩ fun m' a' w' hst hg=> ?_;obtain⟨v,hv,hr⟩:=resultS_ok hst hres;have hpost:CallPost m w M x s.M m' v w':=⟨hg,hv,hst.mem,(hs _ _ _ _ hrun).2⟩;rcases hex with rfl|rfl
     ·exact⟨hst.df,v,hr,m',v,rfl,hpost⟩
     ·exact⟨hst.df,v,hr,m',v,rfl,hpost⟩
    split at h
    ·rename_i s hrun;split at h
     ·rename_i y hres;simp only[sIz,pIz]at h;obtain⟨rfl,h1,_,h2⟩:=h;exact fin _ s (.inl rfl) hrun hres h1 h2
     ·cases h
    ·rename_i s hrun;split at h
     ·rename_i y hres;simp only[sIz,pIz]at h;obtain⟨rfl,h1,_,h2⟩:=h;exact fin _ s (.inr rfl) hrun hres h1 h2
     ·cases h
    ·cases h
   ·cases h
  ·cases h
theorem run_ok(hP:Good P E)(hO:OracleOk P O):∀n,CallOk P (run P E O n).1/\SufOk (run P E O n).2/\CodeOk P (run P E O n).2/\LoopOk P (run P E O n).2 n
 | 0 => by
   refine⟨?_,?_,?_,?_⟩
   ·intro g args M ds x M' ds' ob h;cases h
   ·intro c s ex s' h;cases h
   ·intro c s ex s' h;cases h
   ·intro c s ex s' h;cases h
 | n + 1 => by obtain⟨h1,h2,h3,h4⟩:=run_ok hP hO n;rw[run_succ];have:=codeStep_ok hP h1 h2 h3 h4;exact⟨callStep_ok hO h2 h3,codeStep_suf h2,this.1,this.2⟩
end
end Rx
namespace Rx
open Go Go.RowKit
abbrev OF:=List SV->List Blk->Dec->Option (SV×List Blk×Dec×Obs)
def OfOk(P:Program)(g:FuncId)(f:OF):Prop:=
 ∀args M ds x M' ds' ob,f args M ds=some (x,M',ds',ob)->ObsOk ob->∀m w vs,dens m args=some vs->MemAt m w M->
  Calls P g vs.toArray w fun e w'=>∃m' v,e= .returned v/\CallPost m w M x M' m' v w'
def lookO:List (Nat×OF)->OracleF
 | [],_=>none
 |(k,f)::r,g=>if Nat.beq g k then some f else lookO r g
theorem OracleOk.nil(P:Program):OracleOk P (lookO []):=by intro g f h;cases h
theorem OracleOk.cons{P:Program}{k:Nat}{f:OF}{r:List (Nat×OF)}(h:OfOk P k f)(hr:OracleOk P (lookO r)):OracleOk P (lookO ((k,f)::r)):=by
 intro g f' hf;unfold lookO at hf;split at hf
 ·rename_i e;have:=Nat.eq_of_beq_eq_true e;subst this;simp only[sIz]at hf;subst hf;exact h
 ·exact hr g f' hf
def plainO(f:List SV->Dec->Option (SV×Dec×Obs)):OF:=fun args M ds=>
 match M with
 | [] => match f args ds with
   |some (x,ds',ob)=>some (x,[],ds',ob)
   |none=>none
 |_=>none
theorem MemAt.below{m:Nms}{w w':World}{M:List Blk}(hM:MemAt m w M)(hb:Below w.heap.size w w'):MemAt m w' M:=by refine⟨⟨fun n r hr=>Nat.lt_of_lt_of_le (hM.ok.lt n r hr) hb.size⟩,hM.inj,?_,hM.dom⟩;intro n b hn;obtain⟨r,hr,hat⟩:=hM.blk n b hn;exact⟨r,hr,hat.ext (Ext.refl m) hr (hb.block r (hM.ok.lt n r hr))⟩
theorem CallPost.same{m:Nms}{w w':World}{M:List Blk}{x:SV}{v:Value}(hM:MemAt m w M)(hx:den m x=some v)(hb:Below w.heap.size w w'):CallPost m w M x M m v w':=
 ⟨⟨Ext.refl m,⟨hb.os,hb.tape,hb.output,hb.size,fun r hr _=>hb.block r hr⟩,fun n r h=> .inl h,fun _ _ _ h=>h⟩,hx,hM.below hb,Nat.le_refl _⟩
theorem MemAt.no(w:World):MemAt Nms.no w []:=⟨⟨fun n r h=>by cases h⟩,fun n n' r h=>by obtain⟨b,hb,_⟩:=h;simp at hb,fun n b h=>by simp at h,fun n r h=>by cases h⟩
theorem Goes.none{M M':List Blk}{w w':World}{m':Nms}(h:Goes Nms.no M w m' M' w'):Below w.heap.size w w':=
 ⟨h.fr.os,h.fr.tape,h.fr.output,h.fr.size,fun k hk=>h.fr.block k hk (by rintro⟨n,hn,_⟩;cases hn)⟩
def PlainOk(P:Program)(g:FuncId)(f:List SV->Dec->Option (SV×Dec×Obs)):Prop:=
 ∀args ds x ds' ob,f args ds=some (x,ds',ob)->ObsOk ob->∃vs v,plains args=some vs/\plain x=some v/\∀w,Calls P g vs.toArray w fun e w'=>e= .returned v/\Below w.heap.size w w'
theorem PlainOk.of{P:Program}{g:FuncId}{f:List SV->Dec->Option (SV×Dec×Obs)}(h:PlainOk P g f):OfOk P g (plainO f):=by
 intro args M ds x M' ds' ob hf ho m w vs hvs hM;unfold plainO at hf;split at hf
 ·split at hf
  ·rename_i y d o hy;simp only[sIz,pIz]at hf;obtain⟨rfl,rfl,rfl,rfl⟩:=hf;obtain⟨vs',v,h1,h2,h3⟩:=h args ds y d o hy ho;have:=dens_plains (m:=m) h1;rw[hvs]at this;simp only[sIz]at this;subst this;refine Calls.mono (h3 w) fun e w' ⟨he,hb⟩=>⟨m,v,he,CallPost.same hM (den_plain h2) hb⟩
  ·cases hf
 ·cases hf
theorem calls_of_run{P:Program}{E:ExtF}{O:OracleF}(hP:Good P E)(hO:OracleOk P O)(n:Nat){g:FuncId}{args:List SV}{ds ds':Dec}{x:SV}{M':List Blk}{ob:Obs}{vs:List Value}{v:Value}
  (h:(run P E O n).1 g args [] ds=some (x,M',ds',ob)) (ho:ObsOk ob) (hvs:plains args=some vs) (hx:plain x=some v) (w:World) :
  Calls P g vs.toArray w fun e w'=>e= .returned v/\Below w.heap.size w w':=by
 have h1:=(run_ok hP hO n).1 g args [] ds x M' ds' ob h ho Nms.no w vs (dens_plains hvs) (MemAt.no w);refine Calls.mono h1 fun e w' ⟨m',u,he,hp⟩=> ?_;have:=den_plain (m:=m') hx;rw[hp.val]at this;simp only[sIz]at this;subst this;exact⟨he,hp.go.none⟩
def valR(r:Option (SV×List Blk×Dec×Obs)):Option (SV×Dec×Obs):=
 match r with
 |some (x,_,ds,ob)=>some (x,ds,ob)
 |none=>none
theorem calls_of_val{P:Program}{E:ExtF}{O:OracleF}(hP:Good P E)(hO:OracleOk P O)(n:Nat){g:FuncId}{args:List SV}{ds ds':Dec}{x:SV}{ob:Obs}{vs:List Value}{v:Value}
  (h:valR ((run P E O n).1 g args [] ds)=some (x,ds',ob)) (ho:ObsOk ob) (hvs:plains args=some vs) (hx:plain x=some v) (w:World) :
  Calls P g vs.toArray w fun e w'=>e= .returned v/\Below w.heap.size w w':=by
 unfold valR at h;split at h
 ·rename_i y M' d o hr;simp only[sIz,pIz]at h;obtain⟨rfl,rfl,rfl⟩:=h;exact calls_of_run hP hO n hr ho hvs hx w
 ·cases h
def lookE:List (Nat×(List SV->Option (SV×Obs)))->ExtF
 | [],_=>none
 |(k,f)::r,g=>if Nat.beq g k then some f else lookE r g
def ExtOne(P:Program)(g:FuncId)(f:List SV->Option (SV×Obs)):Prop:=
 ∀args x ob,f args=some (x,ob)->ObsOk ob->∀(m:Nms)vs,dens m args=some vs->∃v,den m x=some v/\∀w,(callFunc g vs.toArray).run P w= .ok (.value v) w
theorem ExtOk.nil(P:Program):ExtOk P (lookE []):=by intro g f h;cases h
theorem ExtOk.cons{P:Program}{k:Nat}{f:List SV->Option (SV×Obs)}{r:List (Nat×(List SV->Option (SV×Obs)))}(h:ExtOne P k f)(hr:ExtOk P (lookE r)):ExtOk P (lookE ((k,f)::r)):=by
 intro g f' hf;unfold lookE at hf;split at hf
 ·rename_i e;have:=Nat.eq_of_beq_eq_true e;subst this;simp only[sIz]at hf;subst hf;exact h
 ·exact hr g f' hf
def intS:SV->Option (IntKind×Int)
 | .i k n=>some (k,n)
 | .si k n=>some (k,n)
 |_=>none
theorem intS_plain{x:SV}{k:IntKind}{n:Int}(h:intS x=some (k,n)):plain x=some (.int k n):=by
 unfold intS at h;split at h<;>first|cases h;done|skip
 all_goals (simp only[sIz,pIz]at h;obtain⟨rfl,rfl⟩:=h;rfl)
theorem plains_cons{x:SV}{v:Value}{l:List SV}{vs:List Value}(h:plain x=some v)(hl:plains l=some vs):plains (x::l)=some (v::vs):=by simp[plains,h,hl]
theorem plains_nil:plains []=some []:=rfl
theorem plain_agg{l:List SV}{vs:List Value}(h:plains l=some vs):plain (.agg l)=some (.agg vs.toArray):=by simp[plain,h]
theorem Good.of {P : Program} {E : ExtF} (h1 : P.follows .mixedOrders = true) (h2 : (P.funcs.toList.all fun fn => fn.body.isNone || !(fn.name == "runtime.NumGoroutine")) = true) (h3 : ExtOk P E) : Good P E := by
 refine⟨h3,h1,fun g fn hg hb=> ?_⟩;have hm:fn∈P.funcs.toList:=by
  have:=Array.mem_of_getElem? hg
  simpa using this
 have:=List.all_eq_true.1 h2 fn hm;cases hbb:fn.body with
 |none=>rw[hbb]at hb;cases hb
 |some c=>rw[hbb]at this;simpa using this
section
variable {P:Program} {E:ExtF} {O:OracleF} {n:Nat}
end
def seqL:Code->Code| .seq a _=>a|c=>c
def seqR:Code->Code| .seq _ b=>b|c=>c
def inner:Code->Code| .block _ a=>a| .loop a=>a| .scope a=>a|c=>c
def bodyOf(P:Program)(g:FuncId):Code:=match P.funcs[g]? with|some fn=>fn.body.getD .skip|none=> .skip
section
variable {P:Program}
def RunsTo(P:Program)(c:Code)(s:St)(ex:Ex)(s':St):Prop:=
 ∀m a w(Q:Exit->Act->World->Prop),StAt m s a w->(∀m' a' w',StAt m' s' a' w'->Goes m s.M w m' s'.M w'->Q (exOf ex) a' w')->c.wp P Q a w
def RoundsTo(P:Program)(body:Code)(n:Nat)(s:St)(ex:Ex)(s':St):Prop:=
 ∀m a w(Q:Exit->Act->World->Prop),StAt m s a w->(∀m' a' w',StAt m' s' a' w'->Goes m s.M w m' s'.M w'->Q (exOf ex) a' w')->Code.rounds P body Q n a w
theorem RunsTo.of{E:ExtF}{O:OracleF}(hP:Good P E)(hO:OracleOk P O){n:Nat}{c:Code}{s s':St}{ex:Ex}(h:(run P E O n).2 c s=some (ex,s'))(ho:ObsOk s'.ob):RunsTo P c s ex s':=
 fun m a w Q hs hq=>(run_ok hP hO n).2.2.1 c s ex s' h ho m a w Q hs hq
theorem RunsTo.seq{c d:Code}{s s1 s2:St}{ex:Ex}(h:RunsTo P c s .normal s1)(k:RunsTo P d s1 ex s2):RunsTo P (.seq c d) s ex s2:=by intro m a w Q hs hq;refine wp_seq (h m a w _ hs fun m' a' w' hs' hg=> ?_);exact k m' a' w' Q hs' fun m2 a2 w2 h2 hg2=>hq m2 a2 w2 h2 (hg.trans hg2)
theorem RunsTo.block{id:Nat}{c:Code}{s s':St}(h:RunsTo P c s (.exit id) s'):RunsTo P (.block id c) s .normal s':=by
 intro m a w Q hs hq;refine wp_block (h m a w _ hs fun m' a' w' hs' hg=> ?_);have:=hq m' a' w' hs' hg
 simpa[exOf,Exit.inBlock]using this
theorem RunsTo.loop{n:Nat}{c:Code}{s s':St}{ex:Ex}(h:RoundsTo P c n s ex s'):RunsTo P (.loop c) s ex s':=
 fun m a w Q hs hq=>wp_loop_rounds n (h m a w Q hs hq)
theorem RoundsTo.next{n:Nat}{c:Code}{s s1 s2:St}{ex:Ex}(h:RunsTo P c s .normal s1)(k:RoundsTo P c n s1 ex s2):RoundsTo P c (n+1) s ex s2:=by intro m a w Q hs hq;rw[rounds_succ];refine h m a w _ hs fun m' a' w' hs' hg=> ?_;exact k m' a' w' Q hs' fun m2 a2 w2 h2 hg2=>hq m2 a2 w2 h2 (hg.trans hg2)
theorem RoundsTo.out{n id:Nat}{c:Code}{s s1:St}(h:RunsTo P c s (.exit id) s1):RoundsTo P c (n+1) s (.exit id) s1:=by intro m a w Q hs hq;rw[rounds_succ];exact h m a w _ hs fun m' a' w' hs' hg=>hq m' a' w' hs' hg
structure SameSt (s t:St):Prop where
 T:∀m,dens m s.T=dens m t.T
 M:s.M.length=t.M.length/\∀(i:Nat)(b:Blk),s.M[i]? =some b->∃c,t.M[i]? =some c/\c.elem=b.elem/\c.k=b.k/\(idsLts 0 c.cells=true->idsLts 0 b.cells=true)/\∀m,dens m b.cells=dens m c.cells
theorem Blk.live_eq{b c:Blk}(h:c.k=b.k):c.live=b.live:=by unfold Blk.live;rw[h]
theorem SameSt.live{s t:St}(h:SameSt s t):liveM s.M=liveM t.M:=by
 funext n;refine propext ⟨?_,?_⟩
 ·rintro⟨b,hb,hl⟩;obtain⟨c,hc,_,hk,_,_⟩:=h.M.2 n b hb;exact⟨c,hc,by rw[Blk.live_eq hk];exact hl⟩
 ·rintro⟨c,hc,hl⟩;have hn:n<s.M.length:=by
   rcases Nat.lt_or_ge n t.M.length with h'|h'
   ·rw[h.M.1];exact h'
   ·rw[List.getElem?_eq_none h']at hc;cases hc
  obtain⟨c',hc',_,hk,_,_⟩:=h.M.2 n s.M[n] (by simp[hn]);rw[hc]at hc';simp only[sIz]at hc';subst hc';exact⟨s.M[n],by simp[hn],by rw[<-Blk.live_eq hk];exact hl⟩
theorem SameSt.at{s t:St}(h:SameSt s t){δ:List Deferred}{m:Nms}{a:Act}{w:World}(hs:StAtD δ m t a w):StAtD δ m s a w:=by
 refine⟨by rw[h.T];exact hs.tm,hs.df,⟨hs.mem.ok,?_,?_,?_⟩⟩
 ·rw[h.live];exact hs.mem.inj
 ·intro n b hb;obtain⟨c,hc,he,hk,hq,hd⟩:=h.M.2 n b hb;obtain⟨r,hr,hat⟩:=hs.mem.blk n c hc;refine⟨r,hr,fun hl=> ?_⟩;obtain⟨cv,sp,h1,h2,h3⟩:=hat (by rw[Blk.live_eq hk];exact hl);exact⟨cv,sp,by rw[hd];exact h1,by rw[h2,he,hk],by rw[<-hk];exact kOk_ext h3 rfl hq⟩
 ·intro n r hr;rw[h.M.1];exact hs.mem.dom n r hr
theorem RunsTo.retell{c:Code}{s t s':St}{ex:Ex}(h:SameSt s t)(k:RunsTo P c s ex s'):RunsTo P c t ex s':=
 fun m a w Q hs hq=>k m a w Q (h.at hs) fun m' a' w' h1 hg=>hq m' a' w' h1 (by unfold Goes at hg ⊢;rw[<-h.live];exact hg)
theorem RunsTo.fin{c:Code}{s s' t:St}{ex:Ex}(h:SameSt t s')(k:RunsTo P c s ex s'):RunsTo P c s ex t:=
 fun m a w Q hs hq=>k m a w Q hs fun m' a' w' h1 hg=>hq m' a' w' (h.at h1) (by unfold Goes at hg ⊢;rw[h.live];exact hg)
theorem SameSt.same(T:List SV)(M:List Blk)(d e:Dec)(o p:Obs):SameSt ⟨T,M,d,o⟩ ⟨T,M,e,p⟩:=⟨fun _=>rfl,rfl,fun _ b h=>⟨b,h,rfl,rfl,id,fun _=>rfl⟩⟩
theorem calls_of_runs{g:FuncId}{fn:Func}{c:Code}{args:List SV}{s:St}{x:SV}{vs:List Value}{v:Value}(hg:P.funcs[g]? =some fn)(hb:fn.body=some c)
  (h:RunsTo P c ⟨args++List.replicate (fn.ntmps-args.length) (.tup []),[],none,[]⟩ .ret s) (hx:resultS P fn s=some x) (hvs:plains args=some vs) (hv:plain x=some v) (w:World) :
  Calls P g vs.toArray w fun e w'=>e= .returned v/\Below w.heap.size w w':=by
 have hvs':=dens_plains (m:=Nms.no) hvs;have hl:=dens_length hvs';refine calls_of_wp hg hb ?_;have htm:dens Nms.no (args++List.replicate (fn.ntmps-args.length) (.tup []))=some (vs.toArray++Array.replicate (fn.ntmps-vs.toArray.size) undef).toList:=by have:=dens_append hvs' (dens_replicate (undef_den Nms.no) (fn.ntmps-args.length));rw[this];simp[hl]
 refine h _ _ w _ ⟨htm,rfl,MemAt.no w⟩ fun m' a' w' hst hgo=> ?_;obtain⟨u,hu,hr⟩:=resultS_ok hst hx;have:=den_plain (m:=m') hv;rw[hu]at this;simp only[sIz]at this;subst this;exact⟨hst.df,u,hr,rfl,hgo.none⟩
end
def Nms.cut(m:Nms)(k:Nat):Nms:=⟨fun n=>if n<k then m n else none,m.c⟩
theorem cut_some{m:Nms}{k n r:Nat}(h:n<k)(hr:m n=some r):m.cut k n=some r:=by show(if n<k then m n else none)=_;rw[if_pos h];exact hr
theorem cut_inv{m:Nms}{k n r:Nat}(h:m.cut k n=some r):n<k/\m n=some r:=by
 have h':(if n<k then m n else none)=some r:=h;by_cases hk:n<k
 ·rw[if_pos hk]at h';exact⟨hk,h'⟩
 ·rw[if_neg hk]at h';cases h'
mutual
theorem den_cut{m:Nms}{k:Nat}:∀{x:SV}{v:Value},idsLt k x=true->den m x=some v->den (m.cut k) x=some v
 | .b _,v,_,h=>by simpa[den]using h
 | .i _ _,v,_,h=>by simpa[den]using h
 | .si _ _,v,_,h=>by simpa[den]using h
 | .f _,v,_,h=>by simpa[den]using h
 | .fl _,v,_,h=>by simpa[den]using h
 | .np,v,_,h=>by simpa[den]using h
 | .o _,v,_,h=>by simpa[den]using h
 | .p n off, v, hk, h => by simp only[den,mIz]at h ⊢;obtain⟨r,hr,e⟩:=h;exact⟨r,cut_some (Nat.blt_eq.mp hk) hr,e⟩
 | .sp n off, v, hk, h => by simp only[den,mIz]at h ⊢;obtain⟨r,hr,e⟩:=h;exact⟨r,cut_some (Nat.blt_eq.mp hk) hr,e⟩
 | .sl n off len cap, v, hk, h => by simp only[den,mIz]at h ⊢;obtain⟨r,hr,e⟩:=h;exact⟨r,cut_some (Nat.blt_eq.mp hk) hr,e⟩
 | .ssl n off len cap, v, hk, h => by simp only[den,mIz]at h ⊢;obtain⟨r,hr,e⟩:=h;exact⟨r,cut_some (Nat.blt_eq.mp hk) hr,e⟩
 | .osl y n len, v, hk, h => by simp only[den,Option.bind_eq_some_iff]at h ⊢;obtain⟨r,hr,e⟩:=h;exact⟨r,cut_some (Nat.blt_eq.mp hk) hr,e⟩
 | .fn f first cap, v, hk, h => by simp only[idsLt,aTz]at hk;simp only[den,Option.bind_eq_some_iff,mIz]at h ⊢;obtain⟨x,hx,y,hy,e⟩:=h;exact⟨x,dens_cut hk.1 hx,y,dens_cut hk.2 hy,e⟩
 | .agg l, v, hk, h => by simp only[idsLt]at hk;simp only[den,mIz]at h ⊢;obtain⟨x,hx,e⟩:=h;exact⟨x,dens_cut hk hx,e⟩
 | .tup l, v, hk, h => by simp only[idsLt]at hk;simp only[den,mIz]at h ⊢;obtain⟨x,hx,e⟩:=h;exact⟨x,dens_cut hk hx,e⟩
theorem dens_cut{m:Nms}{k:Nat}:∀{l:List SV}{vs:List Value},idsLts k l=true->dens m l=some vs->dens (m.cut k) l=some vs
 | [],vs,_,h=>by simpa[dens]using h
 | x :: l, vs, hk, h => by simp only[idsLts,aTz]at hk;obtain⟨v,us,a,b,rfl⟩:=dens_cons_some.1 h;exact dens_cons (den_cut hk.1 a) (dens_cut hk.2 b)
end
def hol(k:Nat)(v:Nat->Value):Nat->List SV->List SV
 |_,[]=>[]
 | j, x :: l => (match idsLt k x with
   |true=>x
   |false=> .o (v j))::hol k v (j+1) l
theorem hol_ok{m:Nms}{k:Nat}{v:Nat->Value}:∀{T:List SV}{vs:List Value}{j:Nat},dens m T=some vs->(∀i u,vs[i]? =some u->v (j+i)=u)->dens (m.cut k) (hol k v j T)=some vs
 | [],vs,j,h,_=>by simp[dens]at h;subst h;simp[hol,dens]
 | x :: l, vs, j, h, hv => by
   obtain⟨u,us,a,b,rfl⟩:=dens_cons_some.1 h;have ih:=hol_ok (k:=k) (v:=v) (j:=j+1) b (fun i u hu=>by rw[show j+1+i=j+(i+1) by omega];exact hv (i+1) u (by simpa using hu));unfold hol;refine dens_cons ?_ ih;cases hx:idsLt k x
   ·have:=hv 0 u (by simp);rw[Nat.add_zero]at this;simp only[den,this]
   ·exact den_cut hx a
def St.cut(s:St)(k:Nat)(v:Nat->Value):St:=⟨hol k v 0 s.T,s.M.take k,s.ds,s.ob⟩
theorem live_take{M:List Blk}{k n:Nat}(h:liveM (M.take k) n):liveM M n/\n<k:=by
 obtain⟨b,hb,hl⟩:=h;rw[List.getElem?_take]at hb;split at hb
 ·rename_i hk;exact⟨⟨b,hb,hl⟩,hk⟩
 ·cases hb
theorem StAt.cut{m:Nms}{s:St}{a:Act}{w:World}(h:StAt m s a w){k:Nat}(hB:∀b∈s.M.take k,idsLts k b.cells=true):StAt (m.cut k) (s.cut k (fun j=>a.tmps.getD j undef)) a w:=by
 refine⟨hol_ok h.tm (fun i u hu=> ?_),h.df,⟨⟨fun n r hr=>h.mem.ok.lt n r (cut_inv hr).2⟩,fun n n' r l1 l2 h1 h2=>h.mem.inj n n' r (live_take l1).1 (live_take l2).1 (cut_inv h1).2 (cut_inv h2).2,fun n b hb=> ?_,fun n r hr=> ?_⟩⟩
 ·rw[Nat.zero_add];have hu':a.tmps[i]? =some u:=by simpa using hu
  simp[Array.getD_eq_getD_getElem?,hu']
 ·have hb0:(s.M.take k)[n]? =some b:=hb;have hmem:=List.mem_of_getElem? hb0;rw[List.getElem?_take]at hb0;split at hb0
  ·rename_i hk;obtain⟨r,hr,hat⟩:=h.mem.blk n b hb0;refine⟨r,cut_some hk hr,fun hl=> ?_⟩;obtain⟨cv,sp,d,hh,kk⟩:=hat hl;exact⟨cv,sp,dens_cut (hB b hmem) d,hh,kOk_ext kk rfl id⟩
  ·cases hb0
 ·obtain⟨h1,h2⟩:=cut_inv hr;have:=h.mem.dom n r h2;show n<(s.M.take k).length;rw[List.length_take];omega
def RunsP(P:Program)(c:Code)(s:St)(ex:Ex)(Φ:St->Prop):Prop:=
 ∀m a w(Q:Exit->Act->World->Prop),StAt m s a w->(∀s' m' a' w',Φ s'->StAt m' s' a' w'->Goes m s.M w m' s'.M w'->Q (exOf ex) a' w')->c.wp P Q a w
def RoundsP(P:Program)(body:Code)(n:Nat)(s:St)(ex:Ex)(Φ:St->Prop):Prop:=
 ∀m a w(Q:Exit->Act->World->Prop),StAt m s a w->(∀s' m' a' w',Φ s'->StAt m' s' a' w'->Goes m s.M w m' s'.M w'->Q (exOf ex) a' w')->Code.rounds P body Q n a w
section
variable {P:Program}
theorem RunsP.of{c:Code}{s s':St}{ex:Ex}(h:RunsTo P c s ex s'):RunsP P c s ex (fun t=>t=s'):=
 fun m a w Q hs hq=>h m a w Q hs fun m' a' w' h1 hg=>hq s' m' a' w' rfl h1 hg
theorem RunsP.mono{c:Code}{s:St}{ex:Ex}{Φ Ψ:St->Prop}(h:RunsP P c s ex Φ)(k:∀t,Φ t->Ψ t):RunsP P c s ex Ψ:=
 fun m a w Q hs hq=>h m a w Q hs fun s' m' a' w' h1=>hq s' m' a' w' (k s' h1)
theorem RunsP.seq{c d:Code}{s:St}{ex:Ex}{Φ Ψ:St->Prop}(h:RunsP P c s .normal Φ)(k:∀t,Φ t->RunsP P d t ex Ψ):RunsP P (.seq c d) s ex Ψ:=by intro m a w Q hs hq;refine wp_seq (h m a w _ hs fun s1 m' a' w' h1 hs' hg=> ?_);exact k s1 h1 m' a' w' Q hs' fun s2 m2 a2 w2 h2 hs2 hg2=>hq s2 m2 a2 w2 h2 hs2 (hg.trans hg2)
theorem RunsP.block{id:Nat}{c:Code}{s:St}{Φ:St->Prop}(h:RunsP P c s (.exit id) Φ):RunsP P (.block id c) s .normal Φ:=by
 intro m a w Q hs hq;refine wp_block (h m a w _ hs fun s1 m' a' w' h1 hs' hg=> ?_);have:=hq s1 m' a' w' h1 hs' hg
 simpa[exOf,Exit.inBlock]using this
theorem RunsP.block_ret{id:Nat}{c:Code}{s:St}{Φ:St->Prop}(h:RunsP P c s .ret Φ):RunsP P (.block id c) s .ret Φ:=by intro m a w Q hs hq;refine wp_block (h m a w _ hs fun s1 m' a' w' h1 hs' hg=> ?_);exact hq s1 m' a' w' h1 hs' hg
theorem RunsP.loop{n:Nat}{c:Code}{s:St}{ex:Ex}{Φ:St->Prop}(h:RoundsP P c n s ex Φ):RunsP P (.loop c) s ex Φ:=
 fun m a w Q hs hq=>wp_loop_rounds n (h m a w Q hs hq)
theorem RoundsP.next{n:Nat}{c:Code}{s:St}{ex:Ex}{Φ Ψ:St->Prop}(h:RunsP P c s .normal Φ)(k:∀t,Φ t->RoundsP P c n t ex Ψ):RoundsP P c (n+1) s ex Ψ:=by intro m a w Q hs hq;rw[rounds_succ];refine h m a w _ hs fun s1 m' a' w' h1 hs' hg=> ?_;exact k s1 h1 m' a' w' Q hs' fun s2 m2 a2 w2 h2 hs2 hg2=>hq s2 m2 a2 w2 h2 hs2 (hg.trans hg2)
theorem RoundsP.out{n id:Nat}{c:Code}{s:St}{Φ:St->Prop}(h:RunsP P c s (.exit id) Φ):RoundsP P c (n+1) s (.exit id) Φ:=by intro m a w Q hs hq;rw[rounds_succ];exact h m a w _ hs fun s1 m' a' w' h1 hs' hg=>hq s1 m' a' w' h1 hs' hg
theorem RunsP.cut{c:Code}{s:St}{ex:Ex}{Φ:St->Prop}{k:Nat}(h:RunsP P c s ex Φ)(hk:s.M.length<=k)(hB:∀t,Φ t->∀b∈t.M.take k,idsLts k b.cells=true):RunsP P c s ex (fun t=>∃t' v,Φ t'/\t=t'.cut k v):=by intro m a w Q hs hq;refine h m a w Q hs fun t m' a' w' h1 hst hg=>hq _ (m'.cut k) a' w' ⟨t,_,h1,rfl⟩ (hst.cut (hB t h1)) ?_;refine⟨⟨fun n r hr=>cut_some (by have:=hs.mem.dom n r hr;omega) (hg.ext.n n r hr),hg.ext.c⟩,hg.fr,fun n r hr=>hg.new n r (cut_inv hr).2,fun n r hr hl=>hg.dd n r hr (live_take hl).1⟩
theorem RunsP.retell{c:Code}{s t:St}{ex:Ex}{Φ:St->Prop}(h:SameSt s t)(k:RunsP P c s ex Φ):RunsP P c t ex Φ:=
 fun m a w Q hs hq=>k m a w Q (h.at hs) fun s' m' a' w' h1 h2 hg=>hq s' m' a' w' h1 h2 (by unfold Goes at hg ⊢;rw[<-h.live];exact hg)
theorem RunsP.fin{c:Code}{s:St}{ex:Ex}{Φ Ψ:St->Prop}(k:RunsP P c s ex Φ)(h:∀t,Φ t->∃u,Ψ u/\SameSt u t):RunsP P c s ex Ψ:=
 fun m a w Q hs hq=>k m a w Q hs fun t m' a' w' h1 h2 hg=>by obtain⟨u,hu,hs⟩:=h t h1;exact hq u m' a' w' hu (hs.at h2) (by unfold Goes at hg ⊢;rw[hs.live];exact hg)
theorem RunsP.call{g:FuncId}{fn:Func}{c:Code}{args:List SV}{M:List Blk}{d:Dec}{Φ:St->Prop}{x:St->SV}(hg:P.funcs[g]? =some fn)(hb:fn.body=some c)
  (h:RunsP P c ⟨args++List.replicate (fn.ntmps-args.length) (.tup []),M,d,[]⟩ .ret Φ) (hx:∀t,Φ t->resultS P fn t=some (x t)) {m:Nms} {w:World} {vs:List Value} (hvs:dens m args=some vs) (hM:MemAt m w M) :
  Calls P g vs.toArray w fun e w'=>∃t m' v,Φ t/\e= .returned v/\den m' (x t)=some v/\MemAt m' w' t.M/\Goes m M w m' t.M w':=by
 have hl:=dens_length hvs;refine calls_of_wp hg hb ?_;have htm:dens m (args++List.replicate (fn.ntmps-args.length) (.tup []))=some (vs.toArray++Array.replicate (fn.ntmps-vs.toArray.size) undef).toList:=by have:=dens_append hvs (dens_replicate (undef_den m) (fn.ntmps-args.length));rw[this];simp[hl]
 refine h _ _ w _ ⟨htm,rfl,hM⟩ fun t m' a' w' h1 hst hgo=> ?_;obtain⟨v,hv,hr⟩:=resultS_ok hst (hx t h1);exact⟨hst.df,v,hr,t,m',v,h1,rfl,hv,hst.mem,hgo⟩
end
def slA:SV->Option (Nat×Nat×Nat)
 | .sl n off len _=>some (n,off,len)
 | .ssl n off len _=>some (n,off,len)
 | .osl _ n len=>some (n,0,len)
 |_=>none
theorem slA_ok{x:SV}{n off len:Nat}{m:Nms}{v:Value}(h:slA x=some (n,off,len))(hx:den m x=some v):∃r cap,m n=some r/\v= .slice (some ⟨r,off,none⟩) len cap:=by
 unfold slA at h;split at h<;>first|cases h;done|skip
 ·simp only[sIz,pIz]at h;obtain⟨rfl,rfl,rfl⟩:=h;simp only[den,mIz]at hx;obtain⟨r,hr,rfl⟩:=hx;exact⟨r,_,hr,rfl⟩
 ·simp only[sIz,pIz]at h;obtain⟨rfl,rfl,rfl⟩:=h;simp only[den,mIz]at hx;obtain⟨r,hr,rfl⟩:=hx;exact⟨r,_,hr,rfl⟩
 ·simp only[sIz,pIz]at h;obtain⟨rfl,rfl,rfl⟩:=h;simp only[den,Option.bind_eq_some_iff]at hx;obtain⟨r,hr,hx⟩:=hx;obtain⟨_,rfl⟩:=oslV_some.1 hx;exact⟨r,_,hr,rfl⟩
def RowAt(w:World)(r off:Nat)(vals:List Value):Prop:=∃(cv:List Value)(e:TypeId),w.heap[r]? =some (.cells cv.toArray e (0,0))/\(cv.drop off).take vals.length=vals
abbrev RdF:=List SV->Nat->List SV->Dec->Option (SV×Dec×Obs)
def RdOk(P:Program)(g:FuncId)(F:RdF):Prop:=
 ∀cs len l ds x ds' ob,F cs len l ds=some (x,ds',ob)->ObsOk ob->∃vc vs v,plains cs=some vc/\plains l=some vs/\plain x=some v/\
  ∀(w:World)(r off cap:Nat),RowAt w r off vc->Calls P g (Value.slice (some ⟨r,off,none⟩) len cap::vs).toArray w fun e w'=>e= .returned v/\Below w.heap.size w w'
def Blk.rw(b:Blk):Bool:=match b.k with
 | .dead=>false
 | .ro _=>false
 |_=>true
theorem rw_ok{b:Blk}(h:b.rw=true):b.live=true/\b.k.z=(0,0):=by unfold Blk.rw at h;unfold Blk.live;cases hk:b.k<;>rw[hk]at h<;>first|exact⟨rfl,rfl⟩|cases h
def kRd(size:Nat)(F:RdF):OF:=fun args M ds=>
 match args,M with
 | s :: l, [b] => match slA s with
   | some (0, off, len) => match b.rw with
     |true=>(F ((b.cells.drop off).take (len*size)) len l ds).map fun q=>(q.1,[b],q.2.1,q.2.2)
     |false=>none
   |_=>none
 |_,_=>none
theorem RdOk.of{P:Program}{g:FuncId}{F:RdF}{size:Nat}(h:RdOk P g F):OfOk P g (kRd size F):=by
 intro args M ds x M' ds' ob hk ho m w vs hvs hM;unfold kRd at hk;split at hk
 ·rename_i s l b;split at hk
  ·rename_i off len hs;split at hk
   ·rename_i hl;simp only[mIz,pIz]at hk;obtain⟨⟨y,d,o⟩,hF,rfl,rfl,rfl,rfl⟩:=hk;obtain⟨vc,vl,v,h1,h2,h3,h4⟩:=h _ _ _ _ _ _ _ hF ho;obtain⟨v0,us,h5,h6,rfl⟩:=dens_cons_some.1 hvs;obtain⟨r,cap,hr,rfl⟩:=slA_ok hs h5;have h7:=dens_plains (m:=m) h2;rw[h6]at h7;have h8:=Option.some.inj h7;subst h8;obtain⟨r',hr',hat⟩:=hM.blk 0 b rfl;rw[hr]at hr';have h9:=Option.some.inj hr';subst h9;obtain⟨cv,sp,d1,hh,_⟩:=hat (rw_ok hl).1;rw[(rw_ok hl).2]at hh;have h10:=dens_plains (m:=m) h1;rw[dens_take (dens_drop d1 _) _]at h10;have h11:=Option.some.inj h10;have hrow:RowAt w r off vc:=by
     refine⟨cv++sp,b.elem,hh,?_⟩;have hlen:vc.length=min (len*size) (cv.length-off):=by rw[<-h11];simp
     rw[List.drop_append,List.take_append,hlen,List.length_drop];rw[show min (len*size) (cv.length-off)-(cv.length-off)=0 by omega,List.take_zero,List.append_nil];rw[<-h11,List.take_eq_take_iff,List.length_drop];omega
    exact Calls.mono (h4 w r off cap hrow) fun e w' ⟨he,hb⟩=>⟨m,v,he,CallPost.same hM (den_plain h3) hb⟩
   ·cases hk
  ·cases hk
 ·cases hk
def CellsAt(cells:List SV)(off:Nat)(cs:List SV):Prop:=∀j x,cs[j]? =some x->cells[off+j]? =some x
theorem plains_app:∀{a b:List SV}{vs us:List Value},plains a=some vs->plains b=some us->plains (a++b)=some (vs++us)
 | [],b,vs,us,h,k=>by simp only[plains,sIz]at h;subst h;exact k
 | x :: a, b, vs, us, h, k => by simp only[plains,Option.bind_eq_some_iff,mIz]at h;obtain⟨v,h1,ws,h2,rfl⟩:=h;exact plains_cons h1 (plains_app h2 k)
theorem plains_o:∀(l:List Value),plains (l.map SV.o)=some l
 | []=>rfl
 |x::l=>plains_cons rfl (plains_o l)
theorem plains_len:∀{l:List SV}{vs:List Value},plains l=some vs->vs.length=l.length:=fun h=>dens_length (dens_plains (m:=Nms.no) h)
theorem rd_cells{w:World}{r off:Nat}{vc:List Value}{cs:List SV}(hc:plains cs=some vc)(hw:RowAt w r off vc) :
  ∃(m:Nms)(e:TypeId)(cells:List SV),MemAt m w [⟨e,cells,.num⟩]/\m 0=some r/\CellsAt cells off cs/\idsLts 0 cells=true:=by
 obtain⟨cv,e,hh,ht⟩:=hw;have hl:=plains_len hc;have hr:r<w.heap.size:=(Array.getElem?_eq_some_iff.1 hh).1;have hcv:cv=cv.take off++(vc++(cv.drop off).drop vc.length):=by
  conv=>lhs;rw[<-List.take_append_drop off cv,<-List.take_append_drop vc.length (cv.drop off),ht]
 have hp:plains ((cv.take off).map SV.o++(cs++((cv.drop off).drop vc.length).map SV.o))=some cv:=by have:=plains_app (plains_o (cv.take off)) (plains_app hc (plains_o ((cv.drop off).drop vc.length)));rw[<-hcv]at this;exact this
 refine⟨⟨fun n=>if n=0 then some r else none,fun _=>0⟩,e,_,⟨⟨fun n q hq=> ?_⟩,fun n n' q _ _ h1 h2=> ?_,fun n b hb=> ?_,fun n q hq=> ?_⟩,rfl,fun j x hj=> ?_,plains_ids hp⟩
 ·have hq':(if n=0 then some r else none)=some q:=hq;split at hq'
  ·cases hq';exact hr
  ·cases hq'
 ·have h1':(if n=0 then some r else none)=some q:=h1;have h2':(if n'=0 then some r else none)=some q:=h2;by_cases e1:n=0
  ·by_cases e2:n'=0
   ·rw[e1,e2]
   ·rw[if_neg e2]at h2';cases h2'
  ·rw[if_neg e1]at h1';cases h1'
 ·have hn:n=0:=by
   rcases Nat.lt_or_ge n 1 with h'|h'
   ·omega
   ·rw[List.getElem?_eq_none (by simpa using h')]at hb;cases hb
  subst hn;simp only[List.getElem?_cons_zero,sIz]at hb;subst hb;exact⟨r,rfl,BlkAt.mk_num (plains_ids hp) (dens_plains hp) hh⟩
 ·have hq':(if n=0 then some r else none)=some q:=hq;split at hq'
  ·rename_i h0;subst h0;exact Nat.lt_add_one 0
  ·cases hq'
 ·have hjl:j<cs.length:=by
   rcases Nat.lt_or_ge j cs.length with h'|h'
   ·exact h'
   ·rw[List.getElem?_eq_none h']at hj;cases hj
  have hoff:off<=cv.length:=by
   rcases Nat.le_total off cv.length with h'|h'
   ·exact h'
   ·have:vc=[]:=by rw[<-ht,List.drop_eq_nil_of_le h'];simp
    rw[this]at hl;simp at hl;omega
  have h1:((cv.take off).map SV.o).length=off:=by simp;omega
  rw[List.getElem?_append_right (by omega),h1,show off+j-off=j by omega,List.getElem?_append_left hjl];exact hj
theorem Goes.read{m m':Nms}{e:TypeId}{cells:List SV}{rest:List Blk}{w w':World}(hM:MemAt m w [⟨e,cells,.num⟩])(hg:Goes m [⟨e,cells,.num⟩] w m' (⟨e,cells,.num⟩::rest) w')(hM':MemAt m' w' (⟨e,cells,.num⟩::rest)):Below w.heap.size w w':=by
 refine⟨hg.fr.os,hg.fr.tape,hg.fr.output,hg.fr.size,fun k hk=> ?_⟩;by_cases hx:∃n,m n=some k/\liveM [⟨e,cells,.num⟩] n
 ·obtain⟨n,hn,_⟩:=hx;have h0:n=0:=by have:=hM.dom n k hn;simpa using this
  subst h0;obtain⟨r,hr,hat⟩:=hM.blk 0 _ rfl;obtain⟨r',hr',hat'⟩:=hM'.blk 0 _ rfl;rw[hn]at hr;cases hr;rw[hg.ext.n 0 k hn]at hr';cases hr';obtain⟨cv,d,h1⟩:=hat.num;obtain⟨cv',d',h2⟩:=hat'.num;rw[dens_ext hg.ext d]at d';cases d';rw[h1,h2]
 ·exact hg.fr.block k hk hx
theorem rd_of_runs{P:Program}{g:FuncId}{fn:Func}{c:Code}(hg:P.funcs[g]? =some fn)(hb:fn.body=some c){cs l:List SV}{len:Nat}{vc vs:List Value}{x:SV}{v:Value}(hc:plains cs=some vc)(hl:plains l=some vs)(hx:plain x=some v){d:Dec}
  (h:∀(e:TypeId)(cells:List SV)(off cap:Nat),CellsAt cells off cs->idsLts 0 cells=true->
   RunsP P c ⟨(.ssl 0 off len cap::l)++List.replicate (fn.ntmps-(l.length+1)) (.tup []),[⟨e,cells,.num⟩],d,[]⟩ .ret (fun t=>resultS P fn t=some x/\∃rest,t.M=⟨e,cells,.num⟩::rest))
  (w:World) (r off cap:Nat) (hw:RowAt w r off vc):Calls P g (Value.slice (some ⟨r,off,none⟩) len cap::vs).toArray w fun e w'=>e= .returned v/\Below w.heap.size w w':=by
 obtain⟨m,e,cells,hM,h0,hca,hid⟩:=rd_cells hc hw;have hd:dens m (.ssl 0 off len cap::l)=some (Value.slice (some ⟨r,off,none⟩) len cap::vs):=dens_cons (by simp only[den,h0,Option.map_some]) (dens_plains hl);refine Calls.mono (RunsP.call hg hb (args:= .ssl 0 off len cap::l) (x:=fun _=>x) (h e cells off cap hca hid) (fun t ht=>ht.1) hd hM) fun ex w' ⟨t,m',u,⟨_,rest,hr⟩,he,hv,hM',hgo⟩=> ?_;rw[den_plain hx]at hv;have:=Option.some.inj hv;subst this;rw[hr]at hM' hgo;exact⟨he,Goes.read hM hgo hM'⟩
theorem rd_of_run{P:Program}{E:ExtF}{O:OracleF}(hP:Good P E)(hO:OracleOk P O)(n:Nat){g:FuncId}{cs l:List SV}{len:Nat}{vc vs:List Value}{x:SV}{v:Value}(hc:plains cs=some vc)(hl:plains l=some vs)(hx:plain x=some v)
  (h:∀(e:TypeId)(cells:List SV)(off cap:Nat),CellsAt cells off cs->∃rest ds ds' ob,(run P E O n).1 g (.ssl 0 off len cap::l) [⟨e,cells,.num⟩] ds=some (x,⟨e,cells,.num⟩::rest,ds',ob)/\ObsOk ob)
  (w:World) (r off cap:Nat) (hw:RowAt w r off vc):Calls P g (Value.slice (some ⟨r,off,none⟩) len cap::vs).toArray w fun e w'=>e= .returned v/\Below w.heap.size w w':=by
 obtain⟨m,e,cells,hM,h0,hca,hid⟩:=rd_cells hc hw;have hd:dens m (.ssl 0 off len cap::l)=some (Value.slice (some ⟨r,off,none⟩) len cap::vs):=dens_cons (by simp only[den,h0,Option.map_some]) (dens_plains hl);obtain⟨rest,ds,ds',ob,hr,ho⟩:=h e cells off cap hca;refine Calls.mono ((run_ok hP hO n).1 g _ _ _ _ _ _ _ hr ho m w _ hd hM) fun ex w' ⟨m',u,he,hp⟩=> ?_;have hv:=hp.val;rw[den_plain hx]at hv;have:=Option.some.inj hv;subst this;exact⟨he,Goes.read hM hp.go hp.mem⟩
def aft(P:Program)(E:ExtF)(O:OracleF)(n:Nat)(c:Code)(s:St):St:=match (run P E O n).2 c s with
 |some (_,s')=>s'
 |none=>s
def Lands(P:Program)(E:ExtF)(O:OracleF)(n:Nat)(c:Code)(s:St)(ex:Ex):Prop:=(run P E O n).2 c s=some (ex,aft P E O n c s)
theorem Lands.runs{P:Program}{E:ExtF}{O:OracleF}(hP:Good P E)(hO:OracleOk P O){n:Nat}{c:Code}{s:St}{ex:Ex}(h:Lands P E O n c s ex)(ho:ObsOk (aft P E O n c s).ob):RunsP P c s ex (fun t=>t=aft P E O n c s):=RunsP.of (RunsTo.of hP hO h ho)
theorem Lands.seq{P:Program}{E:ExtF}{O:OracleF}(hP:Good P E)(hO:OracleOk P O){n:Nat}{c d:Code}{s:St}{ex:Ex}{Ψ:St->Prop}(h:Lands P E O n c s .normal)(ho:ObsOk (aft P E O n c s).ob)(k:RunsP P d (aft P E O n c s) ex Ψ):RunsP P (.seq c d) s ex Ψ:=
 RunsP.seq (h.runs hP hO ho) fun _ ht=>ht▸k
theorem Lands.fin{P:Program}{E:ExtF}{O:OracleF}(hP:Good P E)(hO:OracleOk P O){n:Nat}{c:Code}{s:St}{ex:Ex}{Ψ:St->Prop}(h:Lands P E O n c s ex)(ho:ObsOk (aft P E O n c s).ob)(k:∃u,Ψ u/\SameSt u (aft P E O n c s)):RunsP P c s ex Ψ:=
 (h.runs hP hO ho).fin fun _ ht=>ht▸k
theorem Lands.all{P:Program}{E:ExtF}{O:OracleF}(hP:Good P E)(hO:OracleOk P O){n:Nat}{c:Code}{s:St}{ex:Ex}{Ψ:St->Prop}(h:Lands P E O n c s ex)(ho:ObsOk (aft P E O n c s).ob)(k:Ψ (aft P E O n c s)):RunsP P c s ex Ψ:=
 (h.runs hP hO ho).mono fun _ ht=>ht▸k
theorem RunsP.re{P:Program}{c:Code}{T:List SV}{M:List Blk}{d e:Dec}{o p:Obs}{ex:Ex}{Φ:St->Prop}(k:RunsP P c ⟨T,M,d,o⟩ ex Φ):RunsP P c ⟨T,M,e,p⟩ ex Φ:=k.retell (SameSt.same T M d e o p)
theorem same_eq{s t:St}(hT:s.T=t.T)(hM:s.M=t.M):SameSt s t:=by cases s;cases t;simp only at hT hM;subst hT;subst hM;exact SameSt.same _ _ _ _ _ _
theorem same_T{s t:St}(hT:∀m,dens m s.T=dens m t.T)(hM:s.M=t.M):SameSt s t:=by cases s;cases t;simp only at hT hM;subst hM;exact⟨hT,rfl,fun _ b h=>⟨b,h,rfl,rfl,id,fun _=>rfl⟩⟩
theorem loop_rows{P:Program}{body:Code}{id:Nat}{Φ:St->Prop}{α:Type}(S:Nat->α->St)(n:Nat)(hr:∀i x,i<n->RunsP P body (S i x) .normal (fun t=>∃x',t=S (i+1) x'))(he:∀x,RunsP P body (S n x) (.exit id) Φ)(x:α):RunsP P (.block id (.loop body)) (S 0 x) .normal Φ:=by
 refine RunsP.block (RunsP.loop (n:=n+1) ?_);have key:∀j i x,i+j=n->RoundsP P body (j+1) (S i x) (.exit id) Φ:=by
  intro j
  induction j with
  | zero =>
    intro i x h;rw[Nat.add_zero]at h;subst h;exact RoundsP.out (he x)
  | succ j ih =>
    intro i x h;refine RoundsP.next (hr i x (by omega)) fun t ⟨x',ht⟩=> ?_;subst ht;exact ih (i+1) x' (by omega)
 exact key n 0 x (by omega)
theorem RunsP.round{P:Program}{c:Code}{s s':St}{Φ:St->Prop}{k:Nat}{ex:Ex}(h:RunsP P c s ex (fun t=>t=s'))(hk:s.M.length<=k)(hB:∀b∈s'.M.take k,idsLts k b.cells=true)(hΦ:∀v,∃u,Φ u/\SameSt u (s'.cut k v)):RunsP P c s ex Φ:=
 (h.cut hk (fun t ht=>by rw[ht];exact hB)).fin fun t ⟨t',v,h1,h2⟩=>by subst h1;subst h2;exact hΦ v
theorem wrap_s{i:Nat}(h:i<4611686018427387904):IntKind.i64.wrap ((i:Int)+1)=((i+1:Nat):Int):=by rw[IntKind.wrap_i64];omega
end Rx
