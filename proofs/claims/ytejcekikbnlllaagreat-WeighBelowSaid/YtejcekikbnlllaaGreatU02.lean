/- The reckoner: all operations of values alone. -/
import Derived.ChangeKeysEq
import Derived.Test.YtejcekikbnlllaaGreatU01
set_option linter.all false
namespace Rx
open Go
def byText(o:Oper):Bool:=
 match o.op with
 | .binOp .. | .unOp .. | .convert .. | .index .. | .slice .. =>true
 | .call c => match c.callee with
   | .builtin b => match b with
     | .len| .min| .max| .cap=>true
     |_=>false
   |_=>false
 |_=>false
def evCmp(op:BinOp)(eq:Bool):Option SV:=
 match op with
 | .eql=>some (.b eq)
 | .neq=>some (.b !eq)
 |_=>none
def nilKind(P:Program)(t:TypeId):Nat:=
 match P.underlying t with
 |some (.pointer _)=>1
 |some (.slice _)=>2
 |some (.func _ _ _)=>3
 |_=>0
def evNil(P:Program)(op:BinOp)(t:TypeId):SV->SV->Option SV
 | .p _ _,.np=>if nilKind P t=1 then evCmp op false else none
 | .sl _ _ _ _,.o (.slice none _ _)=>if nilKind P t=2 then evCmp op false else none
 | .fn _ _ _,.o .nilFunc=>if nilKind P t=3 then evCmp op false else none
 |_,_=>none
def evShift(op:BinOp)(k k':IntKind)(a b:Int):Option (SV×Obs):=
 match op with
 | .rem=>if k=k' then some (.si k (a.tmod b),[(decide (b≠0),true)])else none
 | .quo=>if k=k' then some (.si k (k.wrap (a.tdiv b)),[(decide (b≠0),true)])else none
 | .shl=>some (.si k (k.wrap (a*2^min b.toNat k.bits)),[(decide (0<=b),true)])
 | .shr=>some (.si k (a.fdiv (2^min b.toNat k.bits)),[(decide (0<=b),true)])
 |_=>none
def evBin(P:Program)(op:BinOp)(t:TypeId)(x y:SV):Option (SV×Obs):=
 match x,y with
 | .i k a,.si k' b=>evShift op k k' a b
 | .si k a,.si k' b=>evShift op k k' a b
 | .f a,.f b=>(fop op).map fun g=>(.f ((g a b).getD 0),[((g a b).isSome,true)])
 | .f a,.fl b=>(fop op).map fun g=>(.f ((g a b.b).getD 0),[((g a b.b).isSome,true)])
 | .fl a,.f b=>(fop op).map fun g=>(.f ((g a.b b).getD 0),[((g a.b b).isSome,true)])
 | .fl a,.fl b=>(fop op).map fun g=>(.fl (toF ((g a.b b.b).getD 0)),[((g a.b b.b).isSome,true),(Bu.rightB ((g a.b b.b).getD 0),true)])
 |x,y=>(evNil P op t x y).map fun z=>(z,[])
def cmpF(op:BinOp)(a b:Bu.F):Option Bool:=
 match op with
 | .lss=>some (decide (a.k<b.k))
 | .leq=>some (decide (a.k<=b.k))
 | .gtr=>some (decide (b.k<a.k))
 | .geq=>some (decide (b.k<=a.k))
 | .eql=>some (decide (a.k=b.k))
 | .neq=>some (!decide (a.k=b.k))
 |_=>none
def cmpW(op:BinOp)(a b:Nat):Option Bool:=
 match op with
 | .lss=>some (Ieee.double.order a b==some .lt)
 | .leq=>some (Ieee.double.order a b==some .lt||Ieee.double.order a b==some .eq)
 | .gtr=>some (Ieee.double.order a b==some .gt)
 | .geq=>some (Ieee.double.order a b==some .gt||Ieee.double.order a b==some .eq)
 |_=>none
def evCmpF(ρ:Operand->SV)(ds:Dec)(o:Oper):Option (SV×Dec×Obs):=
 match o.op with
 | .binOp op _ x y _ => match ρ x, ρ y with
   | .fl a, .fl b => match cmpF op a b with
     |some c=>(takeB ds c).map fun r=>(.b r.1,r.2.1,r.2.2)
     |none=>none
   | .f a, .fl b => match cmpW op a b.b with
     |some c=>(takeB ds c).map fun r=>(.b r.1,r.2.1,r.2.2)
     |none=>none
   | .fl a, .f b => match cmpW op a.b b with
     |some c=>(takeB ds c).map fun r=>(.b r.1,r.2.1,r.2.2)
     |none=>none
   | .f a, .f b => match cmpW op a b with
     |some c=>(takeB ds c).map fun r=>(.b r.1,r.2.1,r.2.2)
     |none=>none
   |_,_=>none
 |_=>none
def eqFS(P:Program)(rec:TypeId->SV->SV->Option Bool)(xs ys:List SV):List Field->Option Bool
 | []=>some true
 | f :: fs => if f.name ≠ "_" then (match partS P f.type xs f.offset, partS P f.type ys f.offset with
   | some a, some b => match rec f.type a b, eqFS P rec xs ys fs with
     |some c,some r=>some (c&&r)
     |_,_=>none
   |_,_=>none)else eqFS P rec xs ys fs
def eqIS(P:Program)(rec:TypeId->SV->SV->Option Bool)(e:TypeId)(xs ys:List SV):List Nat->Option Bool
 | []=>some true
 | i :: is => match partS P e xs (i * P.cellsOf e), partS P e ys (i * P.cellsOf e) with
   | some a, some b => match rec e a b, eqIS P rec e xs ys is with
     |some c,some r=>some (c&&r)
     |_,_=>none
   |_,_=>none
def eqLeaf:TypeDesc->SV->SV->Option Bool
 | .int _, x, y => match x, y with
   | .i k a,.i k' b=>if k=k' then some (a==b)else none
   | .si k a,.i k' b=>if k=k' then some (a==b)else none
   | .i k a,.si k' b=>if k=k' then some (a==b)else none
   | .si k a,.si k' b=>if k=k' then some (a==b)else none
   |_,_=>none
 | .float .f64, x, y => match x, y with
   | .fl a,.fl b=>some (decide (a.k=b.k))
   | .f a,.fl b=>some (Ieee.double.order a b.b==some .eq)
   | .fl a,.f b=>some (Ieee.double.order a.b b==some .eq)
   | .f a,.f b=>some (Ieee.double.order a b==some .eq)
   |_,_=>none
 | .bool, x, y => match x, y with
   | .b a,.b b=>some (a==b)
   |_,_=>none
 |_,_,_=>none
def eqT(P:Program):Nat->TypeId->SV->SV->Option Bool
 |0,_,_,_=>none
 | d + 1, t, x, y => match P.underlying t with
   | some (.struct fs) => match x, y with
     | .agg xs,.agg ys=>if P.stoodInHeld t=false then eqFS P (eqT P d) xs ys fs.toList else none
     |_,_=>none
   | some (.array n e) => match x, y with
     | .agg xs,.agg ys=>if (P.info? e).isSome=true then eqIS P (eqT P d) e xs ys (List.range n)else none
     |_,_=>none
   |some td=>eqLeaf td x y
   |none=>none
def evCmpA(P:Program)(ρ:Operand->SV)(ds:Dec)(o:Oper):Option (SV×Dec×Obs):=
 match o.op with
 | .binOp op t x y _ => match ρ x, ρ y with
   | .agg xs, .agg ys => if (taints xs || taints ys) && !(P.eqGuardType P.depth t) then
     (match eqT P 8 t (.agg xs) (.agg ys)with
     | some c => match op with
       | .eql=>(takeB ds c).map fun r=>(.b r.1,r.2.1,r.2.2)
       | .neq=>(takeB ds (!c)).map fun r=>(.b r.1,r.2.1,r.2.2)
       |_=>none
     |none=>none)else none
   |_,_=>none
 |_=>none
def mnF(a b:Bu.F):Bu.F:=if b.k<a.k then b else a
def mxF(a b:Bu.F):Bu.F:=if a.k<b.k then b else a
def evUn(op:UnOp):SV->Option (SV×Obs)
 | .fl x => match op with
   | .neg=>some (.fl x.neg,[(!decide (x.k=0),true)])
   |_=>none
 |_=>none
def evConv(P:Program)(src dst:TypeId):SV->Option (SV×Obs)
 | .f b => match P.underlying src, P.underlying dst with
   |some _,some (.int k)=>some (.si k ((f2i k b).getD 0),[((f2i k b).isSome,true)])
   |_,_=>none
 | .fl b => match P.underlying src, P.underlying dst with
   |some _,some (.int k)=>some (.si k ((f2i k b.b).getD 0),[((f2i k b.b).isSome,true)])
   |_,_=>none
 | .si _ n => match P.underlying src, P.underlying dst with
   |some (.int _),some (.float .f64)=>some (.fl (toF (FloatKind.f64.nearest n)),[(Bu.rightB (FloatKind.f64.nearest n),true)])
   |_,_=>none
 |_=>none
def bnd(d:Int):Option SV->Option Int
 |none=>some d
 |some (.i _ a)=>some a
 |_=>none
def evSlice(P:Program)(t:TypeId)(x:SV)(lo hi mx:Option SV):Option SV:=
 match mx,x,P.underlying t with
 | none, .sl n off len cap, some (.slice elem) =>
   match bnd 0 lo,bnd len hi,sizeT P elem with
   | some l, some h, some s =>
     if 0<=l/\l<=h/\h<=(cap:Int)/\l.toNat≠cap then some (.sl n (off+l.toNat*s) (h.toNat-l.toNat) (cap-l.toNat))else none
   |_,_,_=>none
 | none, .p n off, some (.array len elem) =>
   match lo,hi,sizeT P elem with
   |none,none,some _=>some (.sl n off len len)
   |_,_,_=>none
 |_,_,_=>none
def bndS(d:Int):Option SV->Option Int
 |none=>some d
 |some x=>ixS x
def slB(l h cap:Int):Bool:=decide (0<=l)&&(decide (l<=h)&&(decide (h<=cap)&&(decide (l≠cap)||decide (l=0))))
def endT(lo:Option SV)(l cap:Int):Nat:=match lo with
 |none=>l.toNat
 |some _=>bif decide (l=cap)then 0 else l.toNat
def slO(lo:Option SV)(l h cap:Int):Bool:=match lo with
 |none=>slB l h cap
 |some _=>decide (0<=l)&&(decide (l<=h)&&decide (h<=cap))
def evSliceS(P:Program)(t:TypeId)(x:SV)(lo hi mx:Option SV):Option (SV×Obs):=
 match P.underlying t with
 | some (.slice elem) => match sizeT P elem with
   | some s => match mx with
     | none => match x with
       | .osl _ n len => match lo, bndS len hi with
         |none,some h=>some (.osl true n h.toNat,[(slB 0 h len,true)])
         |_,_=>none
       | .ssl n off len cap => match bndS 0 lo, bndS len hi with
         |some l,some h=>some (.ssl n (off+endT lo l cap*s) (h.toNat-l.toNat) (cap-l.toNat),[(slO lo l h cap,true)])
         |_,_=>none
       | .sl n off len cap => match bndS 0 lo, bndS len hi with
         |some l,some h=>some (.ssl n (off+endT lo l cap*s) (h.toNat-l.toNat) (cap-l.toNat),[(slO lo l h cap,true)])
         |_,_=>none
       |_=>none
     | some (.i _ mm) => match x with
       | .sl n off len cap => match bnd 0 lo, hi with
         |some l,some (.i _ h)=>if 0<=l/\l<=h/\h<=mm/\mm<=(cap:Int)/\l.toNat≠mm.toNat then some (.sl n (off+l.toNat*s) (h.toNat-l.toNat) (mm.toNat-l.toNat),[])else none
         |_,_=>none
       |_=>none
     |_=>none
   |none=>none
 |_=>none
def mnI(a b:Int):Int:=if b<a then b else a
def evBuiltin(P:Program)(c:Call)(ρ:Operand->SV):Option (SV×Obs):=
 match c.callee with
 | .builtin .min => match c.args.toList.map ρ with
   | [.f a,.f b]=>some (.f ((mmF false a b).getD 0),[((mmF false a b).isSome,true)])
   | [.fl a,.fl b]=>some (.fl (mnF a b),[])
   | [.si k a,.i _ b]=>some (.si k (mnI a b),[])
   | [.si k a,.si _ b]=>some (.si k (mnI a b),[])
   |_=>none
 | .builtin .max => match c.args.toList.map ρ with
   | [.f a,.f b]=>some (.f ((mmF true a b).getD 0),[((mmF true a b).isSome,true)])
   | [.fl a,.fl b]=>some (.fl (mxF a b),[])
   | [.fl a,.fl b,.fl c]=>some (.fl (mxF (mxF a b) c),[])
   |_=>none
 | .builtin .len => match c.args.toList.map ρ, c.argTypes[0]? with
   | [x], some t => match P.underlying t, x with
     |some (.slice _),.sl _ _ len _=>some (.i .i64 len,[])
     |some (.slice _),.ssl _ _ len _=>some (.si .i64 len,[])
     |some (.slice _),.osl y _ len=>some (match y with|true=> .si .i64 len|false=> .i .i64 len,[])
     |some (.array n _),_=>some (.i .i64 n,[])
     |_,_=>none
   |_,_=>none
 |_=>none
def evSpecial(P:Program)(ρ:Operand->SV)(o:Oper):Option (SV×Obs):=
 match o.op with
 | .move x| .assign x=>some (ρ x,[])
 | .pick c a b => match ρ c with
   | .b true=>some (ρ a,[])
   | .b false=>some (ρ b,[])
   |_=>none
 | .makeFunc fn first cap=>some (.fn fn (first.toList.map ρ) (cap.toList.map ρ),[])
 | .build t parts=>(evBuild P t (parts.toList.map fun q=>(q.1,ρ q.2))).map fun x=>(x,[])
 | .fieldAddr s x f=>(evFieldAddr P s f (ρ x)).map fun x=>(x,[])
 | .field t x f=>(evField P t f (ρ x)).map fun x=>(x,[])
 | .indexAddr t x ix => match evIndexAddr P t (ρ x) (ρ ix) with
   |some z=>some (z,[])
   |none=>evIndexAddrS P t (ρ x) (ρ ix)
 | .index t x ix=>(evIndex P t (ρ x) (ρ ix)).map fun x=>(x,[])
 | .extract x i => match ρ x with
   | .tup l=>l[i]?.map fun x=>(x,[])
   |_=>none
 | .nilCheck x => match ρ x with
   | .p n off=>some (.p n off,[])
   | .sp n off=>some (.sp n off,[])
   | .fn (.func g) a b=>some (.fn (.func g) a b,[])
   |_=>none
 | .binOp op t x y _=>evBin P op t (ρ x) (ρ y)
 | .unOp op _ x=>evUn op (ρ x)
 | .convert src dst x=>evConv P src dst (ρ x)
 | .slice t x lo hi mx => match evSlice P t (ρ x) (lo.map ρ) (hi.map ρ) (mx.map ρ) with
   |some z=>some (z,[])
   |none=>evSliceS P t (ρ x) (lo.map ρ) (hi.map ρ) (mx.map ρ)
 | .call c=>evBuiltin P c ρ
 |_=>none
def evPure(P:Program)(ρ:Operand->SV)(ds:Dec)(o:Oper):Option (SV×Dec×Obs):=
 match evSpecial P ρ o with
 |some (x,ob)=>some (x,ds,ob)
 | none => match evCmpF ρ ds o with
   |some r=>some r
   | none => match evCmpA P ρ ds o with
     |some r=>some r
     |none=>if byText o then plainOp P ρ ds o else none
theorem byText_notSelect{o:Oper}(h:byText o=true):notSelect o=true:=by unfold byText at h;unfold notSelect;split<;>first|rfl|(rename_i hs;rw[hs]at h;exact h)
section
variable {P:Program} {m:Nms} {w:World}
theorem f2i_run{k:IntKind}{b:Nat}{n:Int}(h:f2i k b=some n):(Conv.floatToInt .f64 b k).run P w= .ok (.int k n) w:=by
 unfold f2i at h;unfold Conv.floatToInt;split at h
 ·rename_i a ha;split at h
  ·rename_i hc;simp only[sIz]at h;subst h;simp[ha,hc]
  ·cases h
 ·cases h
theorem obs1{c:Bool}(h:ObsOk [(c,true)]):c=true:=h (c,true) (List.mem_singleton.2 rfl)
theorem getD_of_isSome{α:Type}{x:Option α}{d:α}(h:x.isSome=true):x=some (x.getD d):=by
 cases x with
 |none=>simp at h
 |some a=>rfl
theorem evCmp_ok{op:BinOp}{e:Bool}{x:SV}(h:evCmp op e=some x):(op= .eql/\x= .b e)\/(op= .neq/\x= .b !e):=by
 unfold evCmp at h;split at h
 ·simp only[sIz]at h;exact .inl ⟨rfl,h.symm⟩
 ·simp only[sIz]at h;exact .inr ⟨rfl,h.symm⟩
 ·cases h
theorem pairs_ok{ρ:Operand->SV}{ρv:Operand->Value}(ps:List (Nat×Operand))(h:∀q∈ps,den m (ρ q.2)=some (ρv q.2)) :
  dens m ((ps.map fun q=>(q.1,ρ q.2)).map (·.2))=some ((ps.map fun q=>(q.1,ρv q.2)).map (·.2)):=by
 induction ps with
 |nil=>simp[dens]
 | cons q l ih =>
   simp only[List.map_cons];exact dens_cons (h q (by simp)) (ih fun r hr=>h r (by simp[hr]))
theorem args_ok{ρ:Operand->SV}{ρv:Operand->Value}(ps:List Operand)(h:∀q∈ps,den m (ρ q)=some (ρv q)) :
  dens m (ps.map ρ)=some (ps.map ρv):=by
 induction ps with
 |nil=>simp[dens]
 | cons q l ih =>
   simp only[List.map_cons];exact dens_cons (h q (by simp)) (ih fun r hr=>h r (by simp[hr]))
theorem nilKind_ok{t:TypeId}{k:Nat}(h:nilKind P t=k):(k=1->∃e,P.underlying t=some (.pointer e))/\(k=2->∃e,P.underlying t=some (.slice e))/\(k=3->∃a b c,P.underlying t=some (.func a b c)):=by
 unfold nilKind at h;split at h<;>subst h
 ·rename_i e he;exact⟨(fun _=>⟨e,he⟩),(fun c=>by cases c),(fun c=>by cases c)⟩
 ·rename_i e he;exact⟨(fun c=>by cases c),fun _=>⟨e,he⟩,fun c=>by cases c⟩
 ·rename_i a b c he;exact⟨(fun c=>by cases c),(fun c=>by cases c),fun _=>⟨a,b,c,he⟩⟩
 ·exact⟨(fun c=>by cases c),(fun c=>by cases c),fun c=>by cases c⟩
theorem equal_false(t:TypeId)(v u:Value)(op:BinOp)(z:SV)(X Y:Operand)(hz:evCmp op false=some z)(hne:∀w,(Op.equal t v u).run P w= .ok false w)
  (hg:∀op',eqGuard op' t X Y v u=pure ()\/(op'≠ .eql/\op'≠ .neq)) (hb:∀op',op'= .eql\/op'= .neq->binOp op' t v u=(if op'= .eql then do pure (.bool (<-Op.equal t v u))else do pure (.bool (!(<-Op.equal t v u))))) :
  ∃r,den m z=some r/\∀w,(do eqGuard op t X Y v u;binOp op t v u:Sem Value).run P w= .ok r w:=by
 rcases evCmp_ok hz with⟨rfl,rfl⟩|⟨rfl,rfl⟩
 ·refine⟨.bool false,by simp[den],fun w=> ?_⟩;rcases hg .eql with h|h
  ·rw[h,hb .eql (.inl rfl)];simp[hne]
  ·exact absurd rfl h.1
 ·refine⟨.bool true,by simp[den],fun w=> ?_⟩;rcases hg .neq with h|h
  ·rw[h,hb .neq (.inr rfl)];simp[hne]
  ·exact absurd rfl h.2
theorem equal_once{t:TypeId}{v u:Value}{b:Bool}{w:World}(h:(Op.equalIn (9999+1) t v u).run P w= .ok b w):(Op.equal t v u).run P w= .ok b w:=h
theorem fop_run{op:BinOp}{t:TypeId}{X Y:Operand}{g:Nat->Nat->Option Nat}(hg:fop op=some g){a b r:Nat}(h1:g a b=some r)(w:World) :
  (do eqGuard op t X Y (.float .f64 a) (.float .f64 b);binOp op t (.float .f64 a) (.float .f64 b):Sem Value).run P w= .ok (.float .f64 r) w:=by
 have hf:∀w,(Op.floatArith op .f64 a b).run P w= .ok (.float .f64 r) w:=by
  intro w;unfold fop at hg;split at hg<;>first
   |(simp only[sIz]at hg;subst hg;simp[Op.floatArith,FloatKind.format,h1])
   |cases hg
 unfold fop at hg;split at hg<;>first
  |(simp only[sIz]at hg;simp[eqGuard,binOp,hf])
  |cases hg
theorem obs2{c d:Bool}(h:ObsOk [(c,true),(d,true)]):c=true/\d=true:=⟨h (c,true) (by simp),h (d,true) (by simp)⟩
theorem evShift_ok{op:BinOp}{t:TypeId}{k yk:IntKind}{a b:Int}{X Y:Operand}{z:SV}{ob:Obs}(h:evShift op k yk a b=some (z,ob))(ho:ObsOk ob) :
  ∃r,den m z=some r/\∀w,(do eqGuard op t X Y (.int k a) (.int yk b);binOp op t (.int k a) (.int yk b):Sem Value).run P w= .ok r w:=by
 unfold evShift at h;split at h
 ·split at h
  ·rename_i hk;subst hk;simp only[sIz,pIz]at h;obtain⟨rfl,rfl⟩:=h;have h1:¬b=0:=oTz (obs1 ho);exact⟨.int k (a.tmod b),by simp[den],fun w=>by simp[eqGuard,binOp,Op.intDiv,h1]⟩
  ·cases h
 ·split at h
  ·rename_i hk;subst hk;simp only[sIz,pIz]at h;obtain⟨rfl,rfl⟩:=h;have h1:¬b=0:=oTz (obs1 ho);exact⟨.int k (k.wrap (a.tdiv b)),by simp[den],fun w=>by simp[eqGuard,binOp,Op.intDiv,h1]⟩
  ·cases h
 ·simp only[sIz,pIz]at h;obtain⟨rfl,rfl⟩:=h;have h1:¬b<0:=by have:=oTz (obs1 ho);omega
  exact⟨.int k (k.wrap (a*2^min b.toNat k.bits)),by simp[den],fun w=>by simp[eqGuard,binOp,Op.shift,h1]⟩
 ·simp only[sIz,pIz]at h;obtain⟨rfl,rfl⟩:=h;have h1:¬b<0:=by have:=oTz (obs1 ho);omega
  exact⟨.int k (a.fdiv (2^min b.toNat k.bits)),by simp[den],fun w=>by simp[eqGuard,binOp,Op.shift,h1]⟩
 ·cases h
theorem evBin_ok{op:BinOp}{t:TypeId}{x y:SV}{X Y:Operand}{z:SV}{ob:Obs}{v u:Value}(h:evBin P op t x y=some (z,ob))(ho:ObsOk ob)(hx:den m x=some v)(hy:den m y=some u) :
  ∃r,den m z=some r/\∀w,(do eqGuard op t X Y v u;binOp op t v u:Sem Value).run P w= .ok r w:=by
 unfold evBin at h;split at h
 ·simp only[den,sIz]at hx hy;subst hx hy;exact evShift_ok h ho
 ·simp only[den,sIz]at hx hy;subst hx hy;exact evShift_ok h ho
 ·rename_i a b;simp only[mIz,pIz]at h;obtain⟨g,hg,rfl,rfl⟩:=h;have h1:=getD_of_isSome (d:=0) (obs1 ho);simp only[den,sIz]at hx hy;subst hx hy;exact⟨_,by simp[den],fun w=>fop_run hg h1 w⟩
 ·rename_i a b;simp only[mIz,pIz]at h;obtain⟨g,hg,rfl,rfl⟩:=h;have h1:=getD_of_isSome (d:=0) (obs1 ho);simp only[den,sIz]at hx hy;subst hx hy;exact⟨_,by simp[den],fun w=>fop_run hg h1 w⟩
 ·rename_i a b;simp only[mIz,pIz]at h;obtain⟨g,hg,rfl,rfl⟩:=h;have h1:=getD_of_isSome (d:=0) (obs1 ho);simp only[den,sIz]at hx hy;subst hx hy;exact⟨_,by simp[den],fun w=>fop_run hg h1 w⟩
 ·rename_i a b;simp only[mIz,pIz]at h;obtain⟨g,hg,rfl,rfl⟩:=h;have h1:=getD_of_isSome (d:=0) (obs2 ho).1;have h2:=toF_b (obs2 ho).2;simp only[den,sIz]at hx hy;subst hx hy;exact⟨.float .f64 ((g a.b b.b).getD 0),by simp[den,h2],fun w=>fop_run hg h1 w⟩
 ·simp only[mIz,pIz]at h;obtain⟨s,hs,rfl,rfl⟩:=h;unfold evNil at hs;split at hs
  ·split at hs
   ·rename_i n off hk;obtain⟨e,he⟩:=(nilKind_ok hk).1 rfl;simp only[den,sIz,mIz]at hx hy;obtain⟨r,hr,rfl⟩:=hx;subst hy;refine equal_false t _ _ op _ X Y hs (fun w=> ?_) (fun op'=> ?_) (fun op' h=> ?_)
    ·exact equal_once (by rw[Op.equalIn];simp only[Sem.run_bind,run_underlying he,Result.andThen_ok,Sem.run_pure])
    ·left;cases op'<;>rfl
    ·rcases h with rfl|rfl<;>rfl
   ·cases hs
  ·split at hs
   ·rename_i n off len cap a b hk;obtain⟨e,he⟩:=(nilKind_ok hk).2.1 rfl;simp only[den,sIz,mIz]at hx hy;obtain⟨r,hr,rfl⟩:=hx;subst hy;refine equal_false t _ _ op _ X Y hs (fun w=> ?_) (fun op'=> ?_) (fun op' h=> ?_)
    ·exact equal_once (by rw[Op.equalIn];simp only[Sem.run_bind,run_underlying he,Result.andThen_ok,Sem.run_pure])
    ·left;cases op'<;>rfl
    ·rcases h with rfl|rfl<;>rfl
   ·cases hs
  ·split at hs
   ·rename_i f a b hk;obtain⟨p,q,r,he⟩:=(nilKind_ok hk).2.2 rfl;simp only[den,sIz,mIz,Option.bind_eq_some_iff]at hx hy;obtain⟨_,_,_,_,rfl⟩:=hx;subst hy;refine equal_false t _ _ op _ X Y hs (fun w=> ?_) (fun op'=> ?_) (fun op' h=> ?_)
    ·exact equal_once (by rw[Op.equalIn];simp only[Sem.run_bind,run_underlying he,Result.andThen_ok,Sem.run_pure])
    ·left;cases op'<;>rfl
    ·rcases h with rfl|rfl<;>rfl
   ·cases hs
  ·cases hs
theorem evConv_ok{src dst:TypeId}{x z:SV}{ob:Obs}{v:Value}(h:evConv P src dst x=some (z,ob))(ho:ObsOk ob)(hx:den m x=some v) :
  ∃r,den m z=some r/\∀w,(convert src dst v).run P w= .ok r w:=by
 unfold evConv at h;split at h
 ·rename_i b;split at h
  ·rename_i d k hs hd;simp only[sIz,pIz]at h;obtain⟨rfl,rfl⟩:=h;have h1:=getD_of_isSome (d:=0) (obs1 ho);simp only[den,sIz]at hx;subst hx;refine⟨.int k ((f2i k b).getD 0),by simp[den],fun w=> ?_⟩;have:=f2i_run (P:=P) (w:=w) h1;simp only[convert,Sem.run_bind,run_underlying hs,run_underlying hd,Result.andThen_ok];cases d<;>exact this
  ·cases h
 ·rename_i b;split at h
  ·rename_i d k hs hd;simp only[sIz,pIz]at h;obtain⟨rfl,rfl⟩:=h;have h1:=getD_of_isSome (d:=0) (obs1 ho);simp only[den,sIz]at hx;subst hx;refine⟨.int k ((f2i k b.b).getD 0),by simp[den],fun w=> ?_⟩;have:=f2i_run (P:=P) (w:=w) h1;simp only[convert,Sem.run_bind,run_underlying hs,run_underlying hd,Result.andThen_ok];cases d<;>exact this
  ·cases h
 ·rename_i k n;split at h
  ·rename_i k' hs hd;simp only[sIz,pIz]at h;obtain⟨rfl,rfl⟩:=h;have h1:=obs1 ho;simp only[den,sIz]at hx;subst hx;refine⟨.float .f64 (FloatKind.f64.nearest n),by simp[den,toF_b h1],fun w=> ?_⟩;simp only[convert,Sem.run_bind,run_underlying hs,run_underlying hd,Result.andThen_ok];rfl
  ·cases h
 ·cases h
theorem cmpF_run{op:BinOp}{t:TypeId}{X Y:Operand}{a b:Bu.F}{c:Bool}(h:cmpF op a b=some c)(w:World) :
  (do eqGuard op t X Y (.float .f64 a.b) (.float .f64 b.b);binOp op t (.float .f64 a.b) (.float .f64 b.b):Sem Value).run P w= .ok (.bool c) w:=by
 have e1:=Bu.order_lt a b;have e2:=Bu.order_gt a b;have e3:=Bu.order_eq a b;have e4:FloatKind.f64.format=Ieee.double:=rfl;unfold cmpF at h;split at h<;>first
  |cases h;done
  |skip
 all_goals (simp only[sIz]at h;subst h)
 ·simp[eqGuard,binOp,Op.floatCmp,e4,e1]
 ·have:(Ieee.double.order a.b b.b==some .lt||Ieee.double.order a.b b.b==some .eq)=decide (a.k<=b.k):=by rw[e1,e3,Bool.eq_iff_iff];simp;omega
  simp[eqGuard,binOp,Op.floatCmp,e4,this]
 ·simp[eqGuard,binOp,Op.floatCmp,e4,e2]
 ·have:(Ieee.double.order a.b b.b==some .gt||Ieee.double.order a.b b.b==some .eq)=decide (b.k<=a.k):=by rw[e2,e3,Bool.eq_iff_iff];simp;omega
  simp[eqGuard,binOp,Op.floatCmp,e4,this]
 ·simp[eqGuard,binOp,Op.floatCmp,e4,e3]
 ·have:(Ieee.double.order a.b b.b != some .eq)= !decide (a.k=b.k):=by rw[bne,e3]
  simp[eqGuard,binOp,Op.floatCmp,e4,this]
theorem cmpW_run{op:BinOp}{t:TypeId}{X Y:Operand}{a b:Nat}{c:Bool}(h:cmpW op a b=some c)(w:World) :
  (do eqGuard op t X Y (.float .f64 a) (.float .f64 b);binOp op t (.float .f64 a) (.float .f64 b):Sem Value).run P w= .ok (.bool c) w:=by
 have e4:FloatKind.f64.format=Ieee.double:=rfl;unfold cmpW at h;split at h<;>first
  |cases h;done
  |skip
 all_goals (simp only[sIz]at h;subst h;simp[eqGuard,binOp,Op.floatCmp,e4])
theorem evCmpF_ok{ρ:Operand->SV}{ds ds':Dec}{o:Oper}{x:SV}{ob:Obs}(h:evCmpF ρ ds o=some (x,ds',ob))(ho:ObsOk ob)
  {ρv:Operand->Value} (hρ:∀y∈o.op.operands,den m (ρ y)=some (ρv y)):PureOk P o m ρv x:=by
 unfold evCmpF at h;split at h
 ·rename_i op t y z yt hop;have hy:=hρ y (by rw[hop];simp[Op.operands]);have hz:=hρ z (by rw[hop];simp[Op.operands]);split at h
  ·rename_i a b ha hb;rw[ha]at hy;rw[hb]at hz;simp only[den,sIz]at hy hz;split at h
   ·rename_i c hc;simp only[mIz,pIz]at h;obtain⟨⟨d,e,o'⟩,h1,rfl,rfl,rfl⟩:=h;refine⟨.bool d,by simp[den],fun w=> ?_⟩;have:=cmpF_run (P:=P) (t:=t) (X:=y) (Y:=z) hc w;simp only[execOp,hop,<-hy,<-hz];rw[Sem.run_bind,this,takeB_ok h1 ho];rfl
   ·cases h
  ·rename_i a b ha hb;rw[ha]at hy;rw[hb]at hz;simp only[den,sIz]at hy hz;split at h
   ·rename_i c hc;simp only[mIz,pIz]at h;obtain⟨⟨d,e,o'⟩,h1,rfl,rfl,rfl⟩:=h;refine⟨.bool d,by simp[den],fun w=> ?_⟩;have:=cmpW_run (P:=P) (t:=t) (X:=y) (Y:=z) hc w;simp only[execOp,hop,<-hy,<-hz];rw[Sem.run_bind,this,takeB_ok h1 ho];rfl
   ·cases h
  ·rename_i a b ha hb;rw[ha]at hy;rw[hb]at hz;simp only[den,sIz]at hy hz;split at h
   ·rename_i c hc;simp only[mIz,pIz]at h;obtain⟨⟨d,e,o'⟩,h1,rfl,rfl,rfl⟩:=h;refine⟨.bool d,by simp[den],fun w=> ?_⟩;have:=cmpW_run (P:=P) (t:=t) (X:=y) (Y:=z) hc w;simp only[execOp,hop,<-hy,<-hz];rw[Sem.run_bind,this,takeB_ok h1 ho];rfl
   ·cases h
  ·rename_i a b ha hb;rw[ha]at hy;rw[hb]at hz;simp only[den,sIz]at hy hz;split at h
   ·rename_i c hc;simp only[mIz,pIz]at h;obtain⟨⟨d,e,o'⟩,h1,rfl,rfl,rfl⟩:=h;refine⟨.bool d,by simp[den],fun w=> ?_⟩;have:=cmpW_run (P:=P) (t:=t) (X:=y) (Y:=z) hc w;simp only[execOp,hop,<-hy,<-hz];rw[Sem.run_bind,this,takeB_ok h1 ho];rfl
   ·cases h
  ·cases h
 ·cases h
theorem evUn_ok{op:UnOp}{x z:SV}{ob:Obs}{v:Value}(h:evUn op x=some (z,ob))(ho:ObsOk ob)(hx:den m x=some v) :
  ∃r,den m z=some r/\∀w,(Op.unary op v).run P w= .ok r w:=by
 unfold evUn at h;split at h
 ·rename_i y;split at h
  ·simp only[sIz,pIz]at h;obtain⟨rfl,rfl⟩:=h;have h1:=obs1 ho;simp only[den,sIz]at hx;subst hx;refine⟨.float .f64 y.neg.b,by simp[den],fun w=> ?_⟩;have h2:=Bu.negFloat_F y (by simpa using h1);simp[Op.unary,h2]
  ·cases h
 ·cases h
theorem mnF_run(a b:Bu.F)(w:World):(Builtin.min2 (.float .f64 a.b) (.float .f64 b.b)).run P w= .ok (.float .f64 (mnF a b).b) w:=by
 have e4:FloatKind.f64.format=Ieee.double:=rfl;simp only[Builtin.min2,e4,Bu.order_F];rcases Int.lt_trichotomy a.k b.k with h|h|h
 ·have e:mnF a b=a:=if_neg (by omega);rw[Int.compare_eq_lt.2 h,e];rfl
 ·have e:=Bu.F.ext' h;subst e;have e:mnF a a=a:=if_neg (by omega);rw[Int.compare_eq_eq.2 rfl,e];simp
 ·have e:mnF a b=b:=if_pos h;rw[Int.compare_eq_gt.2 h,e];rfl
theorem mxF_run(a b:Bu.F)(w:World):(Builtin.max2 (.float .f64 a.b) (.float .f64 b.b)).run P w= .ok (.float .f64 (mxF a b).b) w:=by
 have e4:FloatKind.f64.format=Ieee.double:=rfl;simp only[Builtin.max2,e4,Bu.order_F];rcases Int.lt_trichotomy a.k b.k with h|h|h
 ·have e:mxF a b=b:=if_pos h;rw[Int.compare_eq_lt.2 h,e];rfl
 ·have e:=Bu.F.ext' h;subst e;have e:mxF a a=a:=if_neg (by omega);rw[Int.compare_eq_eq.2 rfl,e];simp
 ·have e:mxF a b=a:=if_neg (by omega);rw[Int.compare_eq_gt.2 h,e];rfl
theorem sliceBound_ok{k:IntKind}{a:Int}{y:Nat}{code:BoundsCode}(h:0<=a/\a<=y)(w:World):(Instr.sliceBound (.int k a) y code).run P w= .ok a.toNat w:=by simp[Instr.sliceBound,asIntOf,h]
theorem bnd_ok{d a:Int}{x:Option SV}{xv:Option Value}(h:bnd d x=some a)(hx:∀y,x=some y->∃u,xv=some u/\den m y=some u)(h0:x=none->xv=none) :
  (xv=none/\a=d)\/∃k,xv=some (.int k a):=by
 unfold bnd at h;split at h
 ·simp only[sIz]at h;exact .inl ⟨h0 rfl,h.symm⟩
 ·rename_i k b;simp only[sIz]at h;subst h;obtain⟨u,rfl,hu⟩:=hx _ rfl;simp only[den,sIz]at hu;subst hu;exact .inr ⟨k,rfl⟩
 ·cases h
theorem evSlice_ok{t:TypeId}{x z:SV}{lo hi mx:Option SV}{v:Value}{lov hiv mxv:Option Value}(h:evSlice P t x lo hi mx=some z)(hx:den m x=some v)
  (hlo:∀y,lo=some y->∃u,lov=some u/\den m y=some u) (hlo0:lo=none->lov=none)
  (hhi:∀y,hi=some y->∃u,hiv=some u/\den m y=some u) (hhi0:hi=none->hiv=none) (hmx0:mx=none->mxv=none) :
  ∃r,den m z=some r/\∀w,(Instr.sliceAt t v lov hiv mxv).run P w= .ok r w:=by
 unfold evSlice at h;split at h
 ·rename_i n off len cap elem hd;have hm0:=hmx0 rfl;subst hm0;simp only[den,mIz]at hx;obtain⟨r,hr,rfl⟩:=hx;split at h
  ·rename_i l hh s hl hhh hs;split at h
   ·rename_i hc;obtain⟨c1,c2,c3,c4⟩:=hc;simp only[sIz]at h;subst h;refine⟨.slice (some ⟨r,off+l.toNat*s,none⟩) (hh.toNat-l.toNat) (cap-l.toNat),by simp[den,hr],fun w=> ?_⟩;have hb:(Instr.sliceBounds true len cap lov hiv none).run P w= .ok (l.toNat,hh.toNat,cap) w:=by
     rcases bnd_ok hl hlo hlo0 with⟨rfl,rfl⟩|⟨k,rfl⟩<;>rcases bnd_ok hhh hhi hhi0 with⟨rfl,rfl⟩|⟨k',rfl⟩
     ·simp[Instr.sliceBounds]
     ·have e1:=sliceBound_ok (P:=P) (k:=k') (a:=hh) (y:=cap) (code:= .sliceAcap) ⟨by omega,by omega⟩ w;simp[Instr.sliceBounds,e1]
     ·have e2:=sliceBound_ok (P:=P) (k:=k) (a:=l) (y:=len) (code:= .sliceB) ⟨by omega,by omega⟩ w;simp[Instr.sliceBounds,e2]
     ·have e1:=sliceBound_ok (P:=P) (k:=k') (a:=hh) (y:=cap) (code:= .sliceAcap) ⟨by omega,by omega⟩ w;have e2:=sliceBound_ok (P:=P) (k:=k) (a:=l) (y:=hh.toNat) (code:= .sliceB) ⟨by omega,by omega⟩ w;simp[Instr.sliceBounds,e1,e2]
    have hne:¬cap=l.toNat:=fun e=>c4 e.symm;simp[Instr.sliceAt,run_underlying hd,Instr.slice,hb,run_sizeOf hs,hne,Addr_add]
   ·cases h
  ·cases h
 ·rename_i n off len elem hd;have hm0:=hmx0 rfl;subst hm0;simp only[den,mIz]at hx;obtain⟨r,hr,rfl⟩:=hx;split at h
  ·rename_i s hs;have e1:=hlo0 rfl;have e2:=hhi0 rfl;subst e1;subst e2;simp only[sIz]at h;subst h;refine⟨.slice (some ⟨r,off,none⟩) len len,by simp[den,hr],fun w=> ?_⟩;by_cases c:len=0
   ·subst c;simp[Instr.sliceAt,run_underlying hd,Instr.sureAddr,Instr.sliceBounds,run_sizeOf hs,Addr_add]
   ·simp[Instr.sliceAt,run_underlying hd,Instr.sureAddr,Instr.sliceBounds,run_sizeOf hs,Addr_add,c]
  ·cases h
 ·cases h
theorem bndS_ok{d a:Int}{x:Option SV}{xv:Option Value}(h:bndS d x=some a)(hx:∀y,x=some y->∃u,xv=some u/\den m y=some u)(h0:x=none->xv=none) :
  (xv=none/\a=d)\/∃k,xv=some (.int k a):=by
 unfold bndS at h;split at h
 ·simp only[sIz]at h;exact .inl ⟨h0 rfl,h.symm⟩
 ·obtain⟨u,rfl,hu⟩:=hx _ rfl;obtain⟨k,rfl⟩:=ixS_ok h hu;exact .inr ⟨k,rfl⟩
theorem sliceBounds_ok{len cap:Nat}{l h:Int}{lov hiv:Option Value}(hl:(lov=none/\l=0)\/∃k,lov=some (.int k l))(hh:(hiv=none/\h=len)\/∃k,hiv=some (.int k h))(c1:0<=l)(c2:l<=h)(c3:h<=cap)(w:World) :
  (Instr.sliceBounds true len cap lov hiv none).run P w= .ok (l.toNat,h.toNat,cap) w:=by
 rcases hl with⟨rfl,rfl⟩|⟨k,rfl⟩<;>rcases hh with⟨rfl,rfl⟩|⟨k',rfl⟩
 ·simp[Instr.sliceBounds]
 ·have e1:=sliceBound_ok (P:=P) (k:=k') (a:=h) (y:=cap) (code:= .sliceAcap) ⟨by omega,by omega⟩ w;simp[Instr.sliceBounds,e1]
 ·have e2:=sliceBound_ok (P:=P) (k:=k) (a:=l) (y:=len) (code:= .sliceB) ⟨by omega,by omega⟩ w;simp[Instr.sliceBounds,e2]
 ·have e1:=sliceBound_ok (P:=P) (k:=k') (a:=h) (y:=cap) (code:= .sliceAcap) ⟨by omega,by omega⟩ w;have e2:=sliceBound_ok (P:=P) (k:=k) (a:=l) (y:=h.toNat) (code:= .sliceB) ⟨by omega,by omega⟩ w;simp[Instr.sliceBounds,e1,e2]
theorem sliceBounds3_ok{len cap:Nat}{l h mm:Int}{lov:Option Value}{k k':IntKind}(hl:(lov=none/\l=0)\/∃k,lov=some (.int k l))(c1:0<=l)(c2:l<=h)(c3:h<=mm)(c4:mm<=cap)(w:World) :
  (Instr.sliceBounds true len cap lov (some (.int k h)) (some (.int k' mm))).run P w= .ok (l.toNat,h.toNat,mm.toNat) w:=by
 have e0:=sliceBound_ok (P:=P) (k:=k') (a:=mm) (y:=cap) (code:= .slice3Acap) ⟨by omega,by omega⟩ w;have e1:=sliceBound_ok (P:=P) (k:=k) (a:=h) (y:=mm.toNat) (code:= .slice3B) ⟨by omega,by omega⟩ w;rcases hl with⟨rfl,rfl⟩|⟨q,rfl⟩
 ·simp[Instr.sliceBounds,e0,e1]
 ·have e2:=sliceBound_ok (P:=P) (k:=q) (a:=l) (y:=h.toNat) (code:= .slice3C) ⟨by omega,by omega⟩ w;simp[Instr.sliceBounds,e0,e1,e2]
theorem slB_ok{l h cap:Int}(k:slB l h cap=true):0<=l/\l<=h/\h<=cap/\(l≠cap\/l=0):=by
 unfold slB at k
 simpa using k
theorem slice_run{t elem:TypeId}{s r off len cap l h mm:Nat}{lov hiv mxv:Option Value}(hd:P.underlying t=some (.slice elem))(hs:sizeT P elem=some s){w:World}
  (hb:(Instr.sliceBounds true len cap lov hiv mxv).run P w= .ok (l,h,mm) w) (hc:mm≠l\/l=0) :
  (Instr.sliceAt t (.slice (some ⟨r,off,none⟩) len cap) lov hiv mxv).run P w= .ok (.slice (some ⟨r,off+l*s,none⟩) (h-l) (mm-l)) w:=by
 by_cases e:mm=l
 ·have l0:l=0:=hc.resolve_left (fun k=>k e);subst l0;simp[Instr.sliceAt,run_underlying hd,Instr.slice,hb,run_sizeOf hs,e]
 ·simp[Instr.sliceAt,run_underlying hd,Instr.slice,hb,run_sizeOf hs,e,Addr_add]
theorem slO_ok{lo:Option SV}{l h cap:Int}(k:slO lo l h cap=true):0<=l/\l<=h/\h<=cap/\(lo=none->l≠cap\/l=0):=by
 unfold slO at k;split at k
 ·obtain⟨a,b,c,d⟩:=slB_ok k;exact⟨a,b,c,fun _=>d⟩
 ·simp only[aTz,decide_eq_true_eq]at k;exact⟨k.1,k.2.1,k.2.2,fun h=>by cases h⟩
theorem slice_end{t elem:TypeId}{s r off len cap:Nat}{l h:Int}{lo:Option SV}{lov hiv:Option Value}(hd:P.underlying t=some (.slice elem))(hs:sizeT P elem=some s){w:World}
  (hb:(Instr.sliceBounds true len cap lov hiv none).run P w= .ok (l.toNat,h.toNat,cap) w) (h0:0<=l) (hc:lo=none->l≠cap\/l=0) :
  (Instr.sliceAt t (.slice (some ⟨r,off,none⟩) len cap) lov hiv none).run P w= .ok (.slice (some ⟨r,off+endT lo l cap*s,none⟩) (h.toNat-l.toNat) (cap-l.toNat)) w:=by
 unfold endT;split
 ·exact slice_run hd hs hb (by have:=hc rfl;omega)
 ·by_cases e:l=cap
  ·rw[dT e,cT];have e2:cap=l.toNat:=by omega
   simp[Instr.sliceAt,run_underlying hd,Instr.slice,hb,run_sizeOf hs,<-e2]
  ·rw[dF e,cF];exact slice_run hd hs hb (by omega)
theorem evSliceS_ok{t:TypeId}{x z:SV}{ob:Obs}{lo hi mx:Option SV}{v:Value}{lov hiv mxv:Option Value}(h:evSliceS P t x lo hi mx=some (z,ob))(ho:ObsOk ob)(hx:den m x=some v)
  (hlo:∀y,lo=some y->∃u,lov=some u/\den m y=some u) (hlo0:lo=none->lov=none)
  (hhi:∀y,hi=some y->∃u,hiv=some u/\den m y=some u) (hhi0:hi=none->hiv=none) (hmx:∀y,mx=some y->∃u,mxv=some u/\den m y=some u) (hmx0:mx=none->mxv=none) :
  ∃r,den m z=some r/\∀w,(Instr.sliceAt t v lov hiv mxv).run P w= .ok r w:=by
 unfold evSliceS at h;split at h
 ·rename_i elem hd;split at h
  ·rename_i s hs;split at h
   ·have hm0:=hmx0 rfl;subst hm0;split at h
    ·rename_i y n len;simp only[den,Option.bind_eq_some_iff]at hx;obtain⟨r,hr,hx⟩:=hx;obtain⟨hle,rfl⟩:=oslV_some.1 hx;split at h
     ·rename_i h' hh;simp only[sIz,pIz]at h;obtain⟨rfl,rfl⟩:=h;obtain⟨c1,c2,c3,c4⟩:=slB_ok (obs1 ho);have hb:=fun w=>sliceBounds_ok (P:=P) (len:=len) (cap:=m.c r) (l:=0) (h:=h') (lov:=lov) (hiv:=hiv) (.inl ⟨hlo0 rfl,rfl⟩) (bndS_ok hh hhi hhi0) c1 c2 (by omega) w;refine⟨.slice (some ⟨r,0,none⟩) h'.toNat (m.c r),by simp only[den,hr,Option.bind_some];exact oslV_some.2 ⟨by omega,rfl⟩,fun w=> ?_⟩;have:=slice_run (P:=P) (r:=r) (off:=0) (l:=0) (h:=h'.toNat) (mm:=m.c r) hd hs (hb w) (.inr rfl)
      simpa using this
     ·cases h
    ·rename_i n off len cap;simp only[den,mIz]at hx;obtain⟨r,hr,rfl⟩:=hx;split at h
     ·rename_i l h' hl hh;simp only[sIz,pIz]at h;obtain⟨rfl,rfl⟩:=h;obtain⟨c1,c2,c3,c4⟩:=slO_ok (obs1 ho);have hb:=fun w=>sliceBounds_ok (P:=P) (len:=len) (cap:=cap) (l:=l) (h:=h') (lov:=lov) (hiv:=hiv) (bndS_ok hl hlo hlo0) (bndS_ok hh hhi hhi0) c1 c2 c3 w;exact⟨.slice (some ⟨r,_,none⟩) _ _,by simp only[den,hr,Option.map_some],fun w=>slice_end hd hs (hb w) c1 c4⟩
     ·cases h
    ·rename_i n off len cap;simp only[den,mIz]at hx;obtain⟨r,hr,rfl⟩:=hx;split at h
     ·rename_i l h' hl hh;simp only[sIz,pIz]at h;obtain⟨rfl,rfl⟩:=h;obtain⟨c1,c2,c3,c4⟩:=slO_ok (obs1 ho);have hb:=fun w=>sliceBounds_ok (P:=P) (len:=len) (cap:=cap) (l:=l) (h:=h') (lov:=lov) (hiv:=hiv) (bndS_ok hl hlo hlo0) (bndS_ok hh hhi hhi0) c1 c2 c3 w;exact⟨.slice (some ⟨r,_,none⟩) _ _,by simp only[den,hr,Option.map_some],fun w=>slice_end hd hs (hb w) c1 c4⟩
     ·cases h
    ·cases h
   ·rename_i km mm;obtain⟨um,rfl,hum⟩:=hmx _ rfl;simp only[den,sIz]at hum;subst hum;split at h
    ·rename_i n off len cap;simp only[den,mIz]at hx;obtain⟨r,hr,rfl⟩:=hx;split at h
     ·rename_i l kh h' hl;obtain⟨uh,rfl,huh⟩:=hhi _ rfl;simp only[den,sIz]at huh;subst huh;split at h
      ·rename_i hc;obtain⟨c1,c2,c3,c4,c5⟩:=hc;simp only[sIz,pIz]at h;obtain⟨rfl,rfl⟩:=h;have hb:=fun w=>sliceBounds3_ok (P:=P) (len:=len) (cap:=cap) (k:=kh) (k':=km) (l:=l) (h:=h') (mm:=mm) (lov:=lov) (bnd_ok hl hlo hlo0) c1 c2 c3 c4 w;exact⟨.slice (some ⟨r,_,none⟩) _ _,by simp only[den,hr,Option.map_some],fun w=>slice_run hd hs (hb w) (by omega)⟩
      ·cases h
     ·cases h
    ·cases h
   ·cases h
  ·cases h
 ·cases h
theorem opt_ok{ρ:Operand->SV}{ρv:Operand->Value}{q:Option Operand}(h:∀y,q=some y->den m (ρ y)=some (ρv y)) :
  (∀y,q.map ρ=some y->∃u,q.map ρv=some u/\den m y=some u)/\(q.map ρ=none->q.map ρv=none):=by
 cases q with
 |none=>exact⟨by simp,by simp⟩
 |some y=>exact⟨by simpa using h y rfl,by simp⟩
theorem mmF_ok{mx:Bool}{a b r:Nat}(h:mmF mx a b=some r)(w:World):(if mx then Builtin.max2 (.float .f64 a) (.float .f64 b)else Builtin.min2 (.float .f64 a) (.float .f64 b)).run P w= .ok (.float .f64 r) w:=by
 unfold mmF at h;split at h
 ·cases h
 all_goals
  rename_i ho;simp only[sIz]at h;subst h;cases mx<;>simp[Builtin.max2,Builtin.min2,FloatKind.format,ho]
theorem list2{α β:Type}{f:α->β}{l:List α}{a b:β}(h:l.map f=[a,b]):∃x y,l=[x,y]/\f x=a/\f y=b:=by
 match l,h with
 | [x,y],h=>simp at h;exact⟨x,y,rfl,h.1,h.2⟩
theorem list3{α β:Type}{f:α->β}{l:List α}{a b c:β}(h:l.map f=[a,b,c]):∃x y z,l=[x,y,z]/\f x=a/\f y=b/\f z=c:=by
 match l,h with
 | [x,y,z],h=>simp at h;exact⟨x,y,z,rfl,h.1,h.2.1,h.2.2⟩
theorem list1{α β:Type}{f:α->β}{l:List α}{a:β}(h:l.map f=[a]):∃x,l=[x]/\f x=a:=by
 match l,h with
 | [x],h=>simp at h;exact⟨x,rfl,h⟩
theorem evBuiltin_ok{c:Call}{ρ:Operand->SV}{ρv:Operand->Value}{t:TypeId}{z:SV}{ob:Obs}(h:evBuiltin P c ρ=some (z,ob))(ho:ObsOk ob)(hρ:∀y∈c.operands,den m (ρ y)=some (ρv y)) :
  ∃r,den m z=some r/\∀w,(do let d <-resolve ρv c t;invoke d.target d.args:Sem Next).run P w= .ok (.value r) w:=by
 unfold evBuiltin at h;have hargs:∀y∈c.args.toList,den m (ρ y)=some (ρv y):=fun y hy=>hρ y (by simp only[Call.operands,Array.mem_append];right;simpa using hy);split at h
 ·rename_i hc;split at h
  ·rename_i a b hl;simp only[sIz,pIz]at h;obtain⟨rfl,rfl⟩:=h;have h1:=getD_of_isSome (d:=0) (obs1 ho);refine⟨.float .f64 ((mmF false a b).getD 0),by simp[den],fun w=> ?_⟩;generalize (mmF false a b).getD 0=r at h1;obtain⟨x,y,hxy,ha,hb⟩:=list2 hl;have d1:=hargs x (by simp[hxy]);have d2:=hargs y (by simp[hxy]);rw[ha]at d1;rw[hb]at d2;simp only[den,sIz]at d1 d2;have hm:=mmF_ok (P:=P) h1;simp only[Bool.false_eq_true,if_false]at hm;have hca:c.args= #[x,y]:=Array.ext' (by simpa using hxy);simp[resolve,hc,hca,invoke,builtin,Builtin.min_,<-d1,<-d2,hm]
  ·rename_i a b hl;simp only[sIz,pIz]at h;obtain⟨rfl,rfl⟩:=h;refine⟨.float .f64 (mnF a b).b,by simp[den],fun w=> ?_⟩;obtain⟨x,y,hxy,ha,hb⟩:=list2 hl;have d1:=hargs x (by simp[hxy]);have d2:=hargs y (by simp[hxy]);rw[ha]at d1;rw[hb]at d2;simp only[den,sIz]at d1 d2;have hca:c.args= #[x,y]:=Array.ext' (by simpa using hxy);simp[resolve,hc,hca,invoke,builtin,Builtin.min_,<-d1,<-d2,mnF_run]
  ·rename_i k a k' b hl;simp only[sIz,pIz]at h;obtain⟨rfl,rfl⟩:=h;refine⟨.int k (mnI a b),by simp[den],fun w=> ?_⟩;obtain⟨x,y,hxy,ha,hb⟩:=list2 hl;have d1:=hargs x (by simp[hxy]);have d2:=hargs y (by simp[hxy]);rw[ha]at d1;rw[hb]at d2;simp only[den,sIz]at d1 d2;have hca:c.args= #[x,y]:=Array.ext' (by simpa using hxy);simp[resolve,hc,hca,invoke,builtin,Builtin.min_,Builtin.min2,mnI,<-d1,<-d2]
  ·rename_i k a k' b hl;simp only[sIz,pIz]at h;obtain⟨rfl,rfl⟩:=h;refine⟨.int k (mnI a b),by simp[den],fun w=> ?_⟩;obtain⟨x,y,hxy,ha,hb⟩:=list2 hl;have d1:=hargs x (by simp[hxy]);have d2:=hargs y (by simp[hxy]);rw[ha]at d1;rw[hb]at d2;simp only[den,sIz]at d1 d2;have hca:c.args= #[x,y]:=Array.ext' (by simpa using hxy);simp[resolve,hc,hca,invoke,builtin,Builtin.min_,Builtin.min2,mnI,<-d1,<-d2]
  ·cases h
 ·rename_i hc;split at h
  ·rename_i a b hl;simp only[sIz,pIz]at h;obtain⟨rfl,rfl⟩:=h;have h1:=getD_of_isSome (d:=0) (obs1 ho);refine⟨.float .f64 ((mmF true a b).getD 0),by simp[den],fun w=> ?_⟩;generalize (mmF true a b).getD 0=r at h1;obtain⟨x,y,hxy,ha,hb⟩:=list2 hl;have d1:=hargs x (by simp[hxy]);have d2:=hargs y (by simp[hxy]);rw[ha]at d1;rw[hb]at d2;simp only[den,sIz]at d1 d2;have hm:=mmF_ok (P:=P) h1;simp only[if_true]at hm;have hca:c.args= #[x,y]:=Array.ext' (by simpa using hxy);simp[resolve,hc,hca,invoke,builtin,Builtin.max_,<-d1,<-d2,hm]
  ·rename_i a b hl;simp only[sIz,pIz]at h;obtain⟨rfl,rfl⟩:=h;refine⟨.float .f64 (mxF a b).b,by simp[den],fun w=> ?_⟩;obtain⟨x,y,hxy,ha,hb⟩:=list2 hl;have d1:=hargs x (by simp[hxy]);have d2:=hargs y (by simp[hxy]);rw[ha]at d1;rw[hb]at d2;simp only[den,sIz]at d1 d2;have hca:c.args= #[x,y]:=Array.ext' (by simpa using hxy);simp[resolve,hc,hca,invoke,builtin,Builtin.max_,<-d1,<-d2,mxF_run]
  ·rename_i a b cc hl;simp only[sIz,pIz]at h;obtain⟨rfl,rfl⟩:=h;refine⟨.float .f64 (mxF (mxF a b) cc).b,by simp[den],fun w=> ?_⟩;obtain⟨x,y,z',hxy,ha,hb,hc3⟩:=list3 hl;have d1:=hargs x (by simp[hxy]);have d2:=hargs y (by simp[hxy]);have d3:=hargs z' (by simp[hxy]);rw[ha]at d1;rw[hb]at d2;rw[hc3]at d3;simp only[den,sIz]at d1 d2 d3;have hca:c.args= #[x,y,z']:=Array.ext' (by simpa using hxy);simp[resolve,hc,hca,invoke,builtin,Builtin.max_,<-d1,<-d2,<-d3,mxF_run]
  ·cases h
 ·rename_i hc;split at h
  ·rename_i x ty hl hty;obtain⟨y,hxy,ha⟩:=list1 hl;have d1:=hargs y (by simp[hxy]);rw[ha]at d1;have hca:c.args= #[y]:=Array.ext' (by simpa using hxy);split at h
   ·rename_i e n off len cap hd;simp only[sIz,pIz]at h;obtain⟨rfl,rfl⟩:=h;simp only[den,mIz]at d1;obtain⟨r,hr,d1⟩:=d1;refine⟨.int .i64 len,by simp[den],fun w=> ?_⟩;simp[resolve,hc,hca,invoke,builtin,Builtin.len_,<-d1,hty,run_underlying hd,goInt]
   ·rename_i e n off len cap hd;simp only[sIz,pIz]at h;obtain⟨rfl,rfl⟩:=h;simp only[den,mIz]at d1;obtain⟨r,hr,d1⟩:=d1;refine⟨.int .i64 len,by simp[den],fun w=> ?_⟩;simp[resolve,hc,hca,invoke,builtin,Builtin.len_,<-d1,hty,run_underlying hd,goInt]
   ·rename_i e y n len hd;simp only[sIz,pIz]at h;obtain⟨rfl,rfl⟩:=h;simp only[den,Option.bind_eq_some_iff]at d1;obtain⟨r,hr,d1⟩:=d1;obtain⟨_,d1⟩:=oslV_some.1 d1;refine⟨.int .i64 len,by cases y<;>simp[den],fun w=> ?_⟩;simp[resolve,hc,hca,invoke,builtin,Builtin.len_,d1,hty,run_underlying hd,goInt]
   ·rename_i n e hd;simp only[sIz,pIz]at h;obtain⟨rfl,rfl⟩:=h;refine⟨.int .i64 n,by simp[den],fun w=> ?_⟩;simp[resolve,hc,hca,invoke,builtin,Builtin.len_,hty,run_underlying hd,goInt]
   ·cases h
  ·cases h
 ·cases h
theorem evSpecial_ok{ρ:Operand->SV}{o:Oper}{x:SV}{ob:Obs}(h:evSpecial P ρ o=some (x,ob))(ho:ObsOk ob)
  {ρv:Operand->Value} (hρ:∀y∈o.op.operands,den m (ρ y)=some (ρv y)):PureOk P o m ρv x:=by
 unfold evSpecial at h;split at h
 ·rename_i x hop;simp only[sIz,pIz]at h;obtain⟨rfl,_⟩:=h;exact⟨_,hρ x (by rw[hop];simp[Op.operands]),fun w=>by simp[execOp,hop]⟩
 ·rename_i x hop;simp only[sIz,pIz]at h;obtain⟨rfl,_⟩:=h;exact⟨_,hρ x (by rw[hop];simp[Op.operands]),fun w=>by simp[execOp,hop]⟩
 ·rename_i c a b hop;have hc:=hρ c (by rw[hop];simp[Op.operands]);split at h
  ·rename_i hb;rw[hb]at hc;simp only[den,sIz]at hc;simp only[sIz,pIz]at h;obtain⟨rfl,_⟩:=h;exact⟨_,hρ a (by rw[hop];simp[Op.operands]),fun w=>by simp[execOp,hop,<-hc,asBool]⟩
  ·rename_i hb;rw[hb]at hc;simp only[den,sIz]at hc;simp only[sIz,pIz]at h;obtain⟨rfl,_⟩:=h;exact⟨_,hρ b (by rw[hop];simp[Op.operands]),fun w=>by simp[execOp,hop,<-hc,asBool]⟩
  ·cases h
 ·rename_i fn first cap hop
  simp only[sIz,pIz]at h;obtain⟨rfl,_⟩:=h;have h1:=args_ok (m:=m) (ρ:=ρ) (ρv:=ρv) first.toList fun q hq=>hρ q (by rw[hop];simp only[Op.operands,Array.mem_append];left;simpa using hq);have h2:=args_ok (m:=m) (ρ:=ρ) (ρv:=ρv) cap.toList fun q hq=>hρ q (by rw[hop];simp only[Op.operands,Array.mem_append];right;simpa using hq);refine⟨.func fn (first.map ρv) (cap.map ρv),?_,fun w=>by simp[execOp,hop,Instr.makeFunc]⟩;simp[den,h1,h2];constructor<;>(apply Array.ext';simp)
 ·rename_i t parts hop;simp only[mIz,pIz]at h;obtain⟨y,hy,rfl,_⟩:=h;have h1:=pairs_ok (m:=m) (ρ:=ρ) (ρv:=ρv) parts.toList fun q hq=>hρ q.2 (by rw[hop];simp only[Op.operands,List.mem_toArray,List.mem_map];exact⟨q,hq,rfl⟩);have hb:=fun w=>evBuild_ok (P:=P) (m:=m) (w:=w) (vparts:=parts.toList.map fun q=>(q.1,ρv q.2)) hy (by simp) h1;obtain⟨u,hu,_⟩:=hb default;refine⟨u,hu,fun w=> ?_⟩;obtain⟨u',hu',hr⟩:=hb w;rw[hu]at hu';simp only[sIz]at hu';subst hu';have e:(parts.toList.map fun q=>(q.1,ρv q.2)).toArray=parts.map fun(i,x)=>(i,ρv x):=by apply Array.ext';simp
  rw[e]at hr;simp only[execOp,hop,Sem.run_bind,hr];rfl
 ·rename_i s y f hop;simp only[mIz,pIz]at h;obtain⟨z,hz,rfl,_⟩:=h;have hb:=fun w=>evFieldAddr_ok (P:=P) (w:=w) hz (hρ y (by rw[hop];simp[Op.operands]));obtain⟨u,hu,_⟩:=hb default;refine⟨u,hu,fun w=> ?_⟩;obtain⟨u',hu',hr⟩:=hb w;rw[hu]at hu';simp only[sIz]at hu';subst hu';simp only[execOp,hop,Sem.run_bind,hr];rfl
 ·rename_i s y f hop;simp only[mIz,pIz]at h;obtain⟨z,hz,rfl,_⟩:=h;have hb:=fun w=>evField_ok (P:=P) (w:=w) hz (hρ y (by rw[hop];simp[Op.operands]));obtain⟨u,hu,_⟩:=hb default;refine⟨u,hu,fun w=> ?_⟩;obtain⟨u',hu',hr⟩:=hb w;rw[hu]at hu';simp only[sIz]at hu';subst hu';simp only[execOp,hop,Sem.run_bind,hr];rfl
 ·rename_i t y ix hop;split at h
  ·rename_i z hz;simp only[sIz,pIz]at h;obtain⟨rfl,_⟩:=h;have hb:=fun w=>evIndexAddr_ok (P:=P) (w:=w) hz (hρ y (by rw[hop];simp[Op.operands])) (hρ ix (by rw[hop];simp[Op.operands]));obtain⟨u,hu,_⟩:=hb default;refine⟨u,hu,fun w=> ?_⟩;obtain⟨u',hu',hr⟩:=hb w;rw[hu]at hu';simp only[sIz]at hu';subst hu';simp only[execOp,hop,Sem.run_bind,hr];rfl
  ·obtain⟨u,hu,hr⟩:=evIndexAddrS_ok h ho (hρ y (by rw[hop];simp[Op.operands])) (hρ ix (by rw[hop];simp[Op.operands]));refine⟨u,hu,fun w=> ?_⟩;simp only[execOp,hop,Sem.run_bind,hr w];rfl
 ·rename_i t y ix hop;simp only[mIz,pIz]at h;obtain⟨z,hz,rfl,_⟩:=h;have hb:=fun w=>evIndex_ok (P:=P) (w:=w) hz (hρ y (by rw[hop];simp[Op.operands])) (hρ ix (by rw[hop];simp[Op.operands]));obtain⟨u,hu,_⟩:=hb default;refine⟨u,hu,fun w=> ?_⟩;obtain⟨u',hu',hr⟩:=hb w;rw[hu]at hu';simp only[sIz]at hu';subst hu';simp only[execOp,hop,Sem.run_bind,hr];rfl
 ·rename_i y i hop;have hy:=hρ y (by rw[hop];simp[Op.operands]);split at h
  ·rename_i l hl;simp only[mIz,pIz]at h;obtain⟨z,hz,rfl,_⟩:=h;rw[hl]at hy;simp only[den,mIz]at hy;obtain⟨vs,hvs,he⟩:=hy;obtain⟨v,hv,hd⟩:=dens_get hvs hz;exact⟨v,hd,fun w=>by simp[execOp,hop,<-he,Instr.extract,hv]⟩
  ·cases h
 ·rename_i y hop;have hy:=hρ y (by rw[hop];simp[Op.operands]);split at h
  ·rename_i n off hl;simp only[sIz,pIz]at h;obtain⟨rfl,_⟩:=h;rw[hl]at hy;refine⟨_,hy,fun w=> ?_⟩;simp only[den,mIz]at hy;obtain⟨r,hr,he⟩:=hy;simp[execOp,hop,<-he]
  ·rename_i n off hl;simp only[sIz,pIz]at h;obtain⟨rfl,_⟩:=h;rw[hl]at hy;refine⟨_,hy,fun w=> ?_⟩;simp only[den,mIz]at hy;obtain⟨r,hr,he⟩:=hy;simp[execOp,hop,<-he]
  ·rename_i g a b hl;simp only[sIz,pIz]at h;obtain⟨rfl,_⟩:=h;rw[hl]at hy;refine⟨_,hy,fun w=> ?_⟩;simp only[den,mIz,Option.bind_eq_some_iff]at hy;obtain⟨r,hr,r2,hr2,he⟩:=hy;simp[execOp,hop,<-he]
  ·cases h
 ·rename_i op t y z yt hop;obtain⟨r,hr,hrun⟩:=evBin_ok (X:=y) (Y:=z) h ho (hρ y (by rw[hop];simp[Op.operands])) (hρ z (by rw[hop];simp[Op.operands]));refine⟨r,hr,fun w=> ?_⟩;have:=hrun w;simp only[execOp,hop];rw[Sem.run_bind,this];rfl
 ·rename_i op t y hop;obtain⟨r,hr,hrun⟩:=evUn_ok (P:=P) h ho (hρ y (by rw[hop];simp[Op.operands]));refine⟨r,hr,fun w=> ?_⟩;simp only[execOp,hop,Sem.run_bind,hrun w];rfl
 ·rename_i src dst y hop;obtain⟨r,hr,hrun⟩:=evConv_ok h ho (hρ y (by rw[hop];simp[Op.operands]));refine⟨r,hr,fun w=> ?_⟩;simp only[execOp,hop,Sem.run_bind,hrun w];rfl
 ·rename_i t y lo hi mx hop;have m1:∀q,lo=some q->den m (ρ q)=some (ρv q):=fun q hq=>hρ q (by rw[hop];subst hq;simp[Op.operands]);have m2:∀q,hi=some q->den m (ρ q)=some (ρv q):=fun q hq=>hρ q (by rw[hop];subst hq;simp[Op.operands]);have m3:∀q,mx=some q->den m (ρ q)=some (ρv q):=fun q hq=>hρ q (by rw[hop];subst hq;simp[Op.operands]);split at h
  ·rename_i z hz;simp only[sIz,pIz]at h;obtain⟨rfl,_⟩:=h;obtain⟨r,hr,hrun⟩:=evSlice_ok hz (hρ y (by rw[hop];simp[Op.operands])) (opt_ok m1).1 (opt_ok m1).2 (opt_ok m2).1 (opt_ok m2).2 (opt_ok m3).2;refine⟨r,hr,fun w=> ?_⟩;simp only[execOp,hop,Sem.run_bind,hrun w];rfl
  ·obtain⟨r,hr,hrun⟩:=evSliceS_ok h ho (hρ y (by rw[hop];simp[Op.operands])) (opt_ok m1).1 (opt_ok m1).2 (opt_ok m2).1 (opt_ok m2).2 (opt_ok m3).1 (opt_ok m3).2;refine⟨r,hr,fun w=> ?_⟩;simp only[execOp,hop,Sem.run_bind,hrun w];rfl
 ·rename_i c hop;obtain⟨r,hr,hrun⟩:=evBuiltin_ok (t:=o.type) h ho (ρv:=ρv) fun y hy=>hρ y (by rw[hop];exact hy);refine⟨r,hr,fun w=> ?_⟩;simp only[execOp,hop];exact hrun w
 ·cases h
theorem eqFS_ok{rec:TypeId->SV->SV->Option Bool}{D:Nat}(hr:∀t x y c vx vy,rec t x y=some c->den m x=some vx->den m y=some vy->(Op.equalIn D t vx vy).run P w= .ok c w)
  {xs ys:List SV} {vx vy:List Value} (hx:dens m xs=some vx) (hy:dens m ys=some vy):∀{fs:List Field}{c:Bool},eqFS P rec xs ys fs=some c->(Op.eqFields D vx.toArray vy.toArray fs).run P w= .ok c w
 | [],c,h=>by simp only[eqFS,sIz]at h;subst h;simp[Op.eqFields]
 | f :: fs, c, h => by
   unfold eqFS at h;unfold Op.eqFields;split at h
   ·rename_i hn;rw[if_pos hn];split at h
    ·rename_i a b ha hb;split at h
     ·rename_i c1 c2 h1 h2;simp only[sIz]at h;subst h;obtain⟨u,hu,hu2⟩:=partS_ok ha hx w;obtain⟨v,hv,hv2⟩:=partS_ok hb hy w;have h3:=hr f.type a b c1 u v h1 hu hv;have h4:=eqFS_ok hr hx hy h2;simp only[Sem.run_bind,hu2,hv2,h3,Result.andThen_ok];cases c1
      ·simp
      ·simp[h4]
     ·cases h
    ·cases h
   ·rename_i hn;rw[if_neg hn];exact eqFS_ok hr hx hy h
theorem eqIS_ok{rec:TypeId->SV->SV->Option Bool}{D:Nat}(hr:∀t x y c vx vy,rec t x y=some c->den m x=some vx->den m y=some vy->(Op.equalIn D t vx vy).run P w= .ok c w)
  {e:TypeId} {xs ys:List SV} {vx vy:List Value} (hx:dens m xs=some vx) (hy:dens m ys=some vy):∀{is:List Nat}{c:Bool},eqIS P rec e xs ys is=some c->(Op.eqItems D e (P.cellsOf e) vx.toArray vy.toArray is).run P w= .ok c w
 | [],c,h=>by simp only[eqIS,sIz]at h;subst h;simp[Op.eqItems]
 | i :: is, c, h => by
   unfold eqIS at h;unfold Op.eqItems;split at h
   ·rename_i a b ha hb;split at h
    ·rename_i c1 c2 h1 h2;simp only[sIz]at h;subst h;obtain⟨u,hu,hu2⟩:=partS_ok ha hx w;obtain⟨v,hv,hv2⟩:=partS_ok hb hy w;have h3:=hr e a b c1 u v h1 hu hv;have h4:=eqIS_ok hr hx hy h2;simp only[Sem.run_bind,hu2,hv2,h3,Result.andThen_ok];cases c1
     ·simp
     ·simp[h4]
    ·cases h
   ·cases h
theorem eqLeaf_ok{t:TypeId}{td:TypeDesc}(hu:P.underlying t=some td){x y:SV}{c:Bool}{vx vy:Value}(h:eqLeaf td x y=some c)(hx:den m x=some vx)(hy:den m y=some vy)(D:Nat):(Op.equalIn (D+1) t vx vy).run P w= .ok c w:=by
 unfold eqLeaf at h;split at h
 ·split at h<;>first|cases h;done|skip
  all_goals
   split at h
   ·rename_i hk;subst hk;simp only[sIz]at h;subst h;simp only[den,sIz]at hx hy;subst hx;subst hy;exact run_equalIn_int w D t _ _ _ _ hu
   ·cases h
 ·split at h
  ·rename_i a b;simp only[sIz]at h;subst h;simp only[den,sIz]at hx hy;subst hx;subst hy;have e3:=Bu.order_eq a b;have e4:FloatKind.f64.format=Ieee.double:=rfl;simp[Op.equalIn,run_underlying hu,Op.floatEq,e4,e3]
  ·rename_i a b;simp only[sIz]at h;subst h;simp only[den,sIz]at hx hy;subst hx;subst hy;have e4:FloatKind.f64.format=Ieee.double:=rfl;simp[Op.equalIn,run_underlying hu,Op.floatEq,e4]
  ·rename_i a b;simp only[sIz]at h;subst h;simp only[den,sIz]at hx hy;subst hx;subst hy;have e4:FloatKind.f64.format=Ieee.double:=rfl;simp[Op.equalIn,run_underlying hu,Op.floatEq,e4]
  ·rename_i a b;simp only[sIz]at h;subst h;simp only[den,sIz]at hx hy;subst hx;subst hy;have e4:FloatKind.f64.format=Ieee.double:=rfl;simp[Op.equalIn,run_underlying hu,Op.floatEq,e4]
  ·cases h
 ·split at h
  ·simp only[sIz]at h;subst h;simp only[den,sIz]at hx hy;subst hx;subst hy;simp[Op.equalIn,run_underlying hu]
  ·cases h
 ·cases h
theorem eqT_ok:∀(d:Nat){t:TypeId}{x y:SV}{c:Bool}{vx vy:Value},eqT P d t x y=some c->den m x=some vx->den m y=some vy->∀k,(Op.equalIn (d+k) t vx vy).run P w= .ok c w
 |0,t,x,y,c,vx,vy,h,_,_,_=>by cases h
 | d + 1, t, x, y, c, vx, vy, h, hx, hy, k => by
   rw[show d+1+k=(d+k)+1 from by omega];unfold eqT at h;split at h
   ·rename_i fs hu;split at h
    ·rename_i xs ys;split at h
     ·rename_i hs;simp only[den,mIz]at hx hy;obtain⟨ux,hx,rfl⟩:=hx;obtain⟨uy,hy,rfl⟩:=hy;have hf:P.fieldsOf t=fs:=by unfold Program.fieldsOf;rw[hu]
      rw[run_equalIn_struct w (d+k) t _ _ (by rw[hf];exact hu) hs,hf];exact eqFS_ok (fun t x y c vx vy h1 h2 h3=>eqT_ok d h1 h2 h3 k) hx hy h
     ·cases h
    ·cases h
   ·rename_i n e hu;split at h
    ·rename_i xs ys;split at h
     ·rename_i hs;simp only[den,mIz]at hx hy;obtain⟨ux,hx,rfl⟩:=hx;obtain⟨uy,hy,rfl⟩:=hy;obtain⟨i,hi⟩:=Option.isSome_iff_exists.1 hs;rw[run_equalIn_array w (d+k) _ _ hu hi];exact eqIS_ok (fun t x y c vx vy h1 h2 h3=>eqT_ok d h1 h2 h3 k) hx hy h
     ·cases h
    ·cases h
   ·rename_i td _ _ hu;exact eqLeaf_ok hu h hx hy (d+k)
   ·cases h
theorem evCmpA_ok{ρ:Operand->SV}{ds ds':Dec}{o:Oper}{x:SV}{ob:Obs}(h:evCmpA P ρ ds o=some (x,ds',ob))(ho:ObsOk ob)
  {ρv:Operand->Value} (hρ:∀y∈o.op.operands,den m (ρ y)=some (ρv y)):PureOk P o m ρv x:=by
 unfold evCmpA at h;split at h
 ·rename_i op t y z yt hop;have hy:=hρ y (by rw[hop];simp[Op.operands]);have hz:=hρ z (by rw[hop];simp[Op.operands]);split at h
  ·rename_i xs ys ha hb;rw[ha]at hy;rw[hb]at hz;split at h
   ·rename_i hg;simp only[aTz,Bool.not_eq_true']at hg;split at h
    ·rename_i c hc;have hrun:∀w,(Op.equalIn 10000 t (ρv y) (ρv z)).run P w= .ok c w:=fun w=>eqT_ok (w:=w) 8 hc hy hz 9992;simp only[den,mIz]at hy hz;obtain⟨ux,hx1,hx2⟩:=hy;obtain⟨uy,hy1,hy2⟩:=hz;rw[<-hx2,<-hy2]at hrun;split at h
     ·simp only[mIz,pIz]at h;obtain⟨⟨d,e,o'⟩,h1,rfl,rfl,rfl⟩:=h;refine⟨.bool d,by simp[den],fun w=> ?_⟩;simp only[execOp,hop,<-hx2,<-hy2];rw[Sem.run_bind,Sem.run_bind,run_eqGuard_agg w _ _ _ _ _ _ hg.2,Result.andThen_ok,run_eql_struct,hrun w,takeB_ok h1 ho];rfl
     ·simp only[mIz,pIz]at h;obtain⟨⟨d,e,o'⟩,h1,rfl,rfl,rfl⟩:=h;refine⟨.bool d,by simp[den],fun w=> ?_⟩;simp only[execOp,hop,<-hx2,<-hy2];rw[Sem.run_bind,Sem.run_bind,run_eqGuard_agg w _ _ _ _ _ _ hg.2,Result.andThen_ok,run_neq_struct,hrun w,takeB_ok h1 ho];rfl
     ·cases h
    ·cases h
   ·cases h
  ·cases h
 ·cases h
theorem evPure_ok{ρ:Operand->SV}{ds ds':Dec}{o:Oper}{x:SV}{ob:Obs}(h:evPure P ρ ds o=some (x,ds',ob))(ho:ObsOk ob)
  {ρv:Operand->Value} (hρ:∀y∈o.op.operands,den m (ρ y)=some (ρv y)):PureOk P o m ρv x:=by
 unfold evPure at h;split at h
 ·rename_i y ob' hs;simp only[sIz,pIz]at h;obtain⟨rfl,_,rfl⟩:=h;exact evSpecial_ok hs ho hρ
 ·split at h
  ·rename_i hr;simp only[sIz]at h;subst h;exact evCmpF_ok hr ho hρ
  ·split at h
   ·rename_i hr;simp only[sIz]at h;subst h;exact evCmpA_ok hr ho hρ
   ·split at h
    ·rename_i hb;exact plainOp_ok (byText_notSelect hb) h ho hρ
    ·cases h
end
end Rx
