/- eval.Eval: the rounds that return an error. eval.Eval with errors: the contract. .. -/
import Derived.Test.YtejcekikbnlllaaGreatU14
set_option linter.all false
set_option maxRecDepth 100000
open Go.Proofs.Tryz(prog)
namespace Go.Proofs.YtejcekikbnlllaaGreat
open Go.RowKit Bu Rx
def zLt:SV:= .agg [.fl (toF 0),.fl (toF 0),.fl (toF 0),.fl (toF 0),.fl (toF 0),.fl (toF 0),.fl (toF 0),.fl (toF 0),.fl (toF 0),.fl (toF 0),.fl (toF 0),.fl (toF 0)]
def ndE0(e0:Int)(o0 t:Obs):Obs:=(e0 != 0,true)::(e0==0,false)::((o0++ [])++t)
def ndE1(e0 e1:Int)(o0 o1 t:Obs):Obs:=(e1 != 0,true)::(e1==0,false)::((o1++ [])++((e0==0,true)::((o0++ [])++t)))
def ndE2(e0 e1 e2:Int)(o0 o1 o2 t:Obs):Obs:=(e2 != 0,true)::((o2++ [])++((e1==0,true)::((o1++ [])++((e0==0,true)::((o0++ [])++t)))))
section
variable (N:Nde) (o:List SV->Nat->Bool) (e:TypeId) (cells lc:List SV) (v u:V3) (off len cap n:Nat) (i:Int) (x:Nat->SV)
noncomputable abbrev ezR(d:List Bool):St:=aft prog EG (OE o N) 60 eBd (evS0 e cells v u off len cap i x (some d))
def lfE0(N:Nde)(v u:V3)(cells:List SV)(off:Nat)(i:Int)(k:Nat):Int:=(N.g (lfE v u k (nd0 cells off i))).2
def mxE0(N:Nde)(cells lc:List SV)(off:Nat)(i:Int)(k:Nat):Int:=(mixC N.K ((nd0 cells off i).f 15) (lcAt lc k (nd0 cells off i).a.toNat) (lcAt lc k (nd0 cells off i).b.toNat)).2
def coI(cells:List SV)(off:Nat)(i:Int):I:=⟨(nd0 cells off i).f 14,(nd0 cells off i).f 14⟩
def coV(N:Nde)(cells:List SV)(v:V3)(off:Nat)(i:Int)(t:Obs):Obs:=((N.D v.z (coI cells off i)).2 != 0,true)::((N.D v.z (coI cells off i)).2==0,false)::(((((N.D v.z (coI cells off i)).2 != 0,true)::(N.dO v.z (coI cells off i)++ []))++ [((nd0 cells off i).k==6,true),((nd0 cells off i).k==5,false)])++t)
def coU(N:Nde)(cells:List SV)(v u:V3)(off:Nat)(i:Int)(t:Obs):Obs:=((N.D u.z (coI cells off i)).2 != 0,true)::((N.D u.z (coI cells off i)).2==0,false)::(((N.dO u.z (coI cells off i)++(((N.D v.z (coI cells off i)).2 != 0,false)::(N.dO v.z (coI cells off i)++ [])))++ [((nd0 cells off i).k==6,true),((nd0 cells off i).k==5,false)])++t)
theorem erL_z0:Lands prog EG (OE o N) 60 eBd (evS0 e cells v u off len cap i x (some ([true,false,false]++ [false,true]))) .ret:=by unfold Lands;kernel_rfl
theorem erO_z0:(ezR N o e cells v u off len cap i x ([true,false,false]++ [false,true])).ob=ndE0 (lfE0 N v u cells off i 0) (lfOb N v u (nd0 cells off i) 0) ([((nd0 cells off i).k==6,false),((nd0 cells off i).k==5,false)]++(evHd cells off len i)):=by kernel_rfl
theorem erR_z0:resultS prog Tryz.f77 (ezR N o e cells v u off len cap i x ([true,false,false]++ [false,true]))=some (.tup [zLt,.si .i64 (lfE0 N v u cells off i 0)]):=by kernel_rfl
theorem erM_z0:(ezR N o e cells v u off len cap i x ([true,false,false]++ [false,true])).M=⟨e,cells,.num⟩::(ezR N o e cells v u off len cap i x ([true,false,false]++ [false,true])).M.tail:=by kernel_rfl
theorem erL_z1:Lands prog EG (OE o N) 60 eBd (evS0 e cells v u off len cap i x (some ([true,false,false]++ [true,false,true]))) .ret:=by unfold Lands;kernel_rfl
theorem erO_z1:(ezR N o e cells v u off len cap i x ([true,false,false]++ [true,false,true])).ob=ndE1 (lfE0 N v u cells off i 0) (lfE0 N v u cells off i 1) (lfOb N v u (nd0 cells off i) 0) (lfOb N v u (nd0 cells off i) 1) ([((nd0 cells off i).k==6,false),((nd0 cells off i).k==5,false)]++(evHd cells off len i)):=by kernel_rfl
theorem erR_z1:resultS prog Tryz.f77 (ezR N o e cells v u off len cap i x ([true,false,false]++ [true,false,true]))=some (.tup [zLt,.si .i64 (lfE0 N v u cells off i 1)]):=by kernel_rfl
theorem erM_z1:(ezR N o e cells v u off len cap i x ([true,false,false]++ [true,false,true])).M=⟨e,cells,.num⟩::(ezR N o e cells v u off len cap i x ([true,false,false]++ [true,false,true])).M.tail:=by kernel_rfl
theorem erL_z2:Lands prog EG (OE o N) 60 eBd (evS0 e cells v u off len cap i x (some ([true,false,false]++ [true,true,true]))) .ret:=by unfold Lands;kernel_rfl
theorem erO_z2:(ezR N o e cells v u off len cap i x ([true,false,false]++ [true,true,true])).ob=ndE2 (lfE0 N v u cells off i 0) (lfE0 N v u cells off i 1) (lfE0 N v u cells off i 2) (lfOb N v u (nd0 cells off i) 0) (lfOb N v u (nd0 cells off i) 1) (lfOb N v u (nd0 cells off i) 2) ([((nd0 cells off i).k==6,false),((nd0 cells off i).k==5,false)]++(evHd cells off len i)):=by kernel_rfl
theorem erR_z2:resultS prog Tryz.f77 (ezR N o e cells v u off len cap i x ([true,false,false]++ [true,true,true]))=some (.tup [zLt,.si .i64 (lfE0 N v u cells off i 2)]):=by kernel_rfl
theorem erM_z2:(ezR N o e cells v u off len cap i x ([true,false,false]++ [true,true,true])).M=⟨e,cells,.num⟩::(ezR N o e cells v u off len cap i x ([true,false,false]++ [true,true,true])).M.tail:=by kernel_rfl
theorem erL_l0:Lands prog EG (OE o N) 60 eBd (evS e cells lc v u off len cap n i x (some ([true,false,false]++ [false,true]))) .ret:=by unfold Lands;kernel_rfl
theorem erO_l0:(evA N o e cells lc v u off len cap n i x ([true,false,false]++ [false,true])).ob=ndE0 (lfE0 N v u cells off i 0) (lfOb N v u (nd0 cells off i) 0) ([((nd0 cells off i).k==6,false),((nd0 cells off i).k==5,false)]++(evHd cells off len i)):=by kernel_rfl
theorem erR_l0:resultS prog Tryz.f77 (evA N o e cells lc v u off len cap n i x ([true,false,false]++ [false,true]))=some (.tup [zLt,.si .i64 (lfE0 N v u cells off i 0)]):=by kernel_rfl
theorem erM_l0:(evA N o e cells lc v u off len cap n i x ([true,false,false]++ [false,true])).M=⟨e,cells,.num⟩::(evA N o e cells lc v u off len cap n i x ([true,false,false]++ [false,true])).M.tail:=by kernel_rfl
theorem erL_l1:Lands prog EG (OE o N) 60 eBd (evS e cells lc v u off len cap n i x (some ([true,false,false]++ [true,false,true]))) .ret:=by unfold Lands;kernel_rfl
theorem erO_l1:(evA N o e cells lc v u off len cap n i x ([true,false,false]++ [true,false,true])).ob=ndE1 (lfE0 N v u cells off i 0) (lfE0 N v u cells off i 1) (lfOb N v u (nd0 cells off i) 0) (lfOb N v u (nd0 cells off i) 1) ([((nd0 cells off i).k==6,false),((nd0 cells off i).k==5,false)]++(evHd cells off len i)):=by kernel_rfl
theorem erR_l1:resultS prog Tryz.f77 (evA N o e cells lc v u off len cap n i x ([true,false,false]++ [true,false,true]))=some (.tup [zLt,.si .i64 (lfE0 N v u cells off i 1)]):=by kernel_rfl
theorem erM_l1:(evA N o e cells lc v u off len cap n i x ([true,false,false]++ [true,false,true])).M=⟨e,cells,.num⟩::(evA N o e cells lc v u off len cap n i x ([true,false,false]++ [true,false,true])).M.tail:=by kernel_rfl
theorem erL_l2:Lands prog EG (OE o N) 60 eBd (evS e cells lc v u off len cap n i x (some ([true,false,false]++ [true,true,true]))) .ret:=by unfold Lands;kernel_rfl
theorem erO_l2:(evA N o e cells lc v u off len cap n i x ([true,false,false]++ [true,true,true])).ob=ndE2 (lfE0 N v u cells off i 0) (lfE0 N v u cells off i 1) (lfE0 N v u cells off i 2) (lfOb N v u (nd0 cells off i) 0) (lfOb N v u (nd0 cells off i) 1) (lfOb N v u (nd0 cells off i) 2) ([((nd0 cells off i).k==6,false),((nd0 cells off i).k==5,false)]++(evHd cells off len i)):=by kernel_rfl
theorem erR_l2:resultS prog Tryz.f77 (evA N o e cells lc v u off len cap n i x ([true,false,false]++ [true,true,true]))=some (.tup [zLt,.si .i64 (lfE0 N v u cells off i 2)]):=by kernel_rfl
theorem erM_l2:(evA N o e cells lc v u off len cap n i x ([true,false,false]++ [true,true,true])).M=⟨e,cells,.num⟩::(evA N o e cells lc v u off len cap n i x ([true,false,false]++ [true,true,true])).M.tail:=by kernel_rfl
theorem erL_m0:Lands prog EG (OE o N) 60 eBd (evS e cells lc v u off len cap n i x (some ([true,true]++ [false,true]))) .ret:=by unfold Lands;kernel_rfl
theorem erO_m0:(evA N o e cells lc v u off len cap n i x ([true,true]++ [false,true])).ob=ndE0 (mxE0 N cells lc off i 0) (rdOb lc n (nd0 cells off i).b 0++rdOb lc n (nd0 cells off i).a 0) ([((nd0 cells off i).k==5,true)]++(evHd cells off len i)):=by kernel_rfl
theorem erR_m0:resultS prog Tryz.f77 (evA N o e cells lc v u off len cap n i x ([true,true]++ [false,true]))=some (.tup [zLt,.si .i64 (mxE0 N cells lc off i 0)]):=by kernel_rfl
theorem erM_m0:(evA N o e cells lc v u off len cap n i x ([true,true]++ [false,true])).M=⟨e,cells,.num⟩::(evA N o e cells lc v u off len cap n i x ([true,true]++ [false,true])).M.tail:=by kernel_rfl
theorem erL_m1:Lands prog EG (OE o N) 60 eBd (evS e cells lc v u off len cap n i x (some ([true,true]++ [true,false,true]))) .ret:=by unfold Lands;kernel_rfl
theorem erO_m1:(evA N o e cells lc v u off len cap n i x ([true,true]++ [true,false,true])).ob=ndE1 (mxE0 N cells lc off i 0) (mxE0 N cells lc off i 1) (rdOb lc n (nd0 cells off i).b 0++rdOb lc n (nd0 cells off i).a 0) (rdOb lc n (nd0 cells off i).b 1++rdOb lc n (nd0 cells off i).a 1) ([((nd0 cells off i).k==5,true)]++(evHd cells off len i)):=by kernel_rfl
theorem erR_m1:resultS prog Tryz.f77 (evA N o e cells lc v u off len cap n i x ([true,true]++ [true,false,true]))=some (.tup [zLt,.si .i64 (mxE0 N cells lc off i 1)]):=by kernel_rfl
theorem erM_m1:(evA N o e cells lc v u off len cap n i x ([true,true]++ [true,false,true])).M=⟨e,cells,.num⟩::(evA N o e cells lc v u off len cap n i x ([true,true]++ [true,false,true])).M.tail:=by kernel_rfl
theorem erL_m2:Lands prog EG (OE o N) 60 eBd (evS e cells lc v u off len cap n i x (some ([true,true]++ [true,true,true]))) .ret:=by unfold Lands;kernel_rfl
theorem erO_m2:(evA N o e cells lc v u off len cap n i x ([true,true]++ [true,true,true])).ob=ndE2 (mxE0 N cells lc off i 0) (mxE0 N cells lc off i 1) (mxE0 N cells lc off i 2) (rdOb lc n (nd0 cells off i).b 0++rdOb lc n (nd0 cells off i).a 0) (rdOb lc n (nd0 cells off i).b 1++rdOb lc n (nd0 cells off i).a 1) (rdOb lc n (nd0 cells off i).b 2++rdOb lc n (nd0 cells off i).a 2) ([((nd0 cells off i).k==5,true)]++(evHd cells off len i)):=by kernel_rfl
theorem erR_m2:resultS prog Tryz.f77 (evA N o e cells lc v u off len cap n i x ([true,true]++ [true,true,true]))=some (.tup [zLt,.si .i64 (mxE0 N cells lc off i 2)]):=by kernel_rfl
theorem erM_m2:(evA N o e cells lc v u off len cap n i x ([true,true]++ [true,true,true])).M=⟨e,cells,.num⟩::(evA N o e cells lc v u off len cap n i x ([true,true]++ [true,true,true])).M.tail:=by kernel_rfl
theorem erL_cv:Lands prog EG (OE o N) 60 eBd (evS e cells lc v u off len cap n i x (some ([true,false,true]++ [true,false,true]))) .ret:=by unfold Lands;kernel_rfl
theorem erO_cv:(evA N o e cells lc v u off len cap n i x ([true,false,true]++ [true,false,true])).ob=coV N cells v off i (evHd cells off len i):=by kernel_rfl
theorem erR_cv:resultS prog Tryz.f77 (evA N o e cells lc v u off len cap n i x ([true,false,true]++ [true,false,true]))=some (.tup [zLt,.si .i64 (N.D v.z (coI cells off i)).2]):=by kernel_rfl
theorem erM_cv:(evA N o e cells lc v u off len cap n i x ([true,false,true]++ [true,false,true])).M=⟨e,cells,.num⟩::(evA N o e cells lc v u off len cap n i x ([true,false,true]++ [true,false,true])).M.tail:=by kernel_rfl
theorem erL_cu:Lands prog EG (OE o N) 60 eBd (evS e cells lc v u off len cap n i x (some ([true,false,true]++ [false,false,true]))) .ret:=by unfold Lands;kernel_rfl
theorem erO_cu:(evA N o e cells lc v u off len cap n i x ([true,false,true]++ [false,false,true])).ob=coU N cells v u off i (evHd cells off len i):=by kernel_rfl
theorem erR_cu:resultS prog Tryz.f77 (evA N o e cells lc v u off len cap n i x ([true,false,true]++ [false,false,true]))=some (.tup [zLt,.si .i64 (N.D u.z (coI cells off i)).2]):=by kernel_rfl
theorem erM_cu:(evA N o e cells lc v u off len cap n i x ([true,false,true]++ [false,false,true])).M=⟨e,cells,.num⟩::(evA N o e cells lc v u off len cap n i x ([true,false,true]++ [false,false,true])).M.tail:=by kernel_rfl
theorem erL_c0:Lands prog EG (OE o N) 60 eBd (evS e cells lc v u off len cap n i x (some ([true,false,true,false,true]++ [false,true]))) .ret:=by unfold Lands;kernel_rfl
theorem erO_c0:(evA N o e cells lc v u off len cap n i x ([true,false,true,false,true]++ [false,true])).ob=ndE0 ((ovE N cells lc v u off i 0).2) (rdOb lc n (nd0 cells off i).a 0) (coO N cells v u off i (evHd cells off len i)):=by kernel_rfl
theorem erR_c0:resultS prog Tryz.f77 (evA N o e cells lc v u off len cap n i x ([true,false,true,false,true]++ [false,true]))=some (.tup [zLt,.si .i64 ((ovE N cells lc v u off i 0).2)]):=by kernel_rfl
theorem erM_c0:(evA N o e cells lc v u off len cap n i x ([true,false,true,false,true]++ [false,true])).M=⟨e,cells,.num⟩::(evA N o e cells lc v u off len cap n i x ([true,false,true,false,true]++ [false,true])).M.tail:=by kernel_rfl
theorem erL_c1:Lands prog EG (OE o N) 60 eBd (evS e cells lc v u off len cap n i x (some ([true,false,true,false,true]++ [true,false,true]))) .ret:=by unfold Lands;kernel_rfl
theorem erO_c1:(evA N o e cells lc v u off len cap n i x ([true,false,true,false,true]++ [true,false,true])).ob=ndE1 ((ovE N cells lc v u off i 0).2) ((ovE N cells lc v u off i 1).2) (rdOb lc n (nd0 cells off i).a 0) (rdOb lc n (nd0 cells off i).a 1) (coO N cells v u off i (evHd cells off len i)):=by kernel_rfl
theorem erR_c1:resultS prog Tryz.f77 (evA N o e cells lc v u off len cap n i x ([true,false,true,false,true]++ [true,false,true]))=some (.tup [zLt,.si .i64 ((ovE N cells lc v u off i 1).2)]):=by kernel_rfl
theorem erM_c1:(evA N o e cells lc v u off len cap n i x ([true,false,true,false,true]++ [true,false,true])).M=⟨e,cells,.num⟩::(evA N o e cells lc v u off len cap n i x ([true,false,true,false,true]++ [true,false,true])).M.tail:=by kernel_rfl
theorem erL_c2:Lands prog EG (OE o N) 60 eBd (evS e cells lc v u off len cap n i x (some ([true,false,true,false,true]++ [true,true,true]))) .ret:=by unfold Lands;kernel_rfl
theorem erO_c2:(evA N o e cells lc v u off len cap n i x ([true,false,true,false,true]++ [true,true,true])).ob=ndE2 ((ovE N cells lc v u off i 0).2) ((ovE N cells lc v u off i 1).2) ((ovE N cells lc v u off i 2).2) (rdOb lc n (nd0 cells off i).a 0) (rdOb lc n (nd0 cells off i).a 1) (rdOb lc n (nd0 cells off i).a 2) (coO N cells v u off i (evHd cells off len i)):=by kernel_rfl
theorem erR_c2:resultS prog Tryz.f77 (evA N o e cells lc v u off len cap n i x ([true,false,true,false,true]++ [true,true,true]))=some (.tup [zLt,.si .i64 ((ovE N cells lc v u off i 2).2)]):=by kernel_rfl
theorem erM_c2:(evA N o e cells lc v u off len cap n i x ([true,false,true,false,true]++ [true,true,true])).M=⟨e,cells,.num⟩::(evA N o e cells lc v u off len cap n i x ([true,false,true,false,true]++ [true,true,true])).M.tail:=by kernel_rfl
end
def fst3(a b c:Int):Int:=bif decide (a=0)then(bif decide (b=0)then c else b)else a
def evEr(N:Nde)(v u:V3)(l:Nat->Nat->Ch)(n:Nd):Int:=
 bif decide (n.k=6)then
  bif decide ((N.D v.z ⟨n.f 14,n.f 14⟩).2=0)then
   bif decide ((N.D u.z ⟨n.f 14,n.f 14⟩).2=0)then fst3 (evN N v u 0 (l 0) n).2 (evN N v u 1 (l 1) n).2 (evN N v u 2 (l 2) n).2
   else(N.D u.z ⟨n.f 14,n.f 14⟩).2
  else(N.D v.z ⟨n.f 14,n.f 14⟩).2
 else fst3 (evN N v u 0 (l 0) n).2 (evN N v u 1 (l 1) n).2 (evN N v u 2 (l 2) n).2
def evPB(N:Nde)(v u:V3)(n:Nd):Bool:=
 bif decide (n.k=5)then true
 else bif decide (n.k=6)then Bu.obsB (N.dO v.z ⟨n.f 14,n.f 14⟩)&&Bu.obsB (N.dO u.z ⟨n.f 14,n.f 14⟩)
 else Bu.obsB (lfOb N v u n 0)&&(Bu.obsB (lfOb N v u n 1)&&Bu.obsB (lfOb N v u n 2))
def evL(N:Nde)(v u:V3)(cs:List SV)(i:Nat):Nat->Nat->Ch:=fun k j=>(chL (allE N v u cs k) i).getD j Ch.zero
def evF(N:Nde)(v u:V3)(cs:List SV)(i:Nat):Int:=evEr N v u (evL N v u cs i) (ndR cs (i*19))
def evE(N:Nde)(v u:V3)(cs:List SV):Nat->Int
 |0=>0
 |i+1=>bif decide (evE N v u cs i=0)then evF N v u cs i else evE N v u cs i
def evPs(N:Nde)(v u:V3)(cs:List SV)(len:Nat):Bool:=(List.range len).all fun i=>evPB N v u (ndR cs (i*19))
theorem evPs_at{N:Nde}{v u:V3}{cs:List SV}{len:Nat}(h:evPs N v u cs len=true){i:Nat}(hi:i<len):evPB N v u (ndR cs (i*19))=true:=List.all_eq_true.1 h i (List.mem_range.2 hi)
theorem fst3_0{a b c:Int}(h:fst3 a b c=0):a=0/\b=0/\c=0:=by
 unfold fst3 at h;by_cases ha:a=0
 ·rw[dT ha,cT]at h;by_cases hb:b=0
  ·rw[dT hb,cT]at h;exact⟨ha,hb,h⟩
  ·rw[dF hb,cF]at h;exact absurd h hb
 ·rw[dF ha,cF]at h;exact absurd h ha
theorem fst3_n{a b c:Int}(h:fst3 a b c≠0):(a≠0/\fst3 a b c=a)\/(a=0/\b≠0/\fst3 a b c=b)\/(a=0/\b=0/\c≠0/\fst3 a b c=c):=by
 unfold fst3 at h ⊢;by_cases ha:a=0
 ·rw[dT ha,cT]at h ⊢;by_cases hb:b=0
  ·rw[dT hb,cT]at h ⊢;exact .inr (.inr ⟨ha,hb,h,rfl⟩)
  ·rw[dF hb,cF]at h ⊢;exact .inr (.inl ⟨ha,h,rfl⟩)
 ·rw[dF ha,cF]at h ⊢;exact .inl ⟨h,rfl⟩
theorem evNB_of{N:Nde}{v u:V3}{l:Nat->Nat->Ch}{n:Nd}(h:evEr N v u l n=0)(p:evPB N v u n=true):evNB N v u l n=true:=by
 unfold evEr at h;unfold evPB at p;unfold evNB;by_cases h5:n.k=5
 ·rw[dF (show n.k≠6 by omega),cF]at h;obtain⟨a,b,c⟩:=fst3_0 h;rw[dT h5,cT,dT a,dT b,dT c];rfl
 ·by_cases h6:n.k=6
  ·rw[dT h6,cT]at h;rw[dF h5,cF,dT h6,cT,aTz]at p;by_cases d1:(N.D v.z ⟨n.f 14,n.f 14⟩).2=0
   ·rw[dT d1,cT]at h;by_cases d2:(N.D u.z ⟨n.f 14,n.f 14⟩).2=0
    ·rw[dT d2,cT]at h;obtain⟨a,b,c⟩:=fst3_0 h;rw[dF h5,dT h6,cF,cT,p.1,p.2,dT d1,dT d2,dT a,dT b,dT c];rfl
    ·rw[dF d2,cF]at h;exact absurd h d2
   ·rw[dF d1,cF]at h;exact absurd h d1
  ·rw[dF h6,cF]at h;rw[dF h5,dF h6,cF,cF]at p;obtain⟨a,b,c⟩:=fst3_0 h;rw[dF h5,dF h6,cF,cF,p,dT a,dT b,dT c];rfl
theorem ndE0_ok{e0:Int}{o0 t:Obs}(h:e0≠0)(k0:ObsOk o0)(ht:ObsOk t):ObsOk (ndE0 e0 o0 t):=ob_c (by simpa using h) (ob_c (beq_f h) (ob_a (ob_a k0 ob_n) ht))
theorem ndE1_ok{e0 e1:Int}{o0 o1 t:Obs}(h0:e0=0)(h:e1≠0)(k0:ObsOk o0)(k1:ObsOk o1)(ht:ObsOk t):ObsOk (ndE1 e0 e1 o0 o1 t):=ob_c (by simpa using h) (ob_c (beq_f h) (ob_a (ob_a k1 ob_n) (ob_c (beq_t h0) (ob_a (ob_a k0 ob_n) ht))))
theorem ndE2_ok{e0 e1 e2:Int}{o0 o1 o2 t:Obs}(h0:e0=0)(h1:e1=0)(h:e2≠0)(k0:ObsOk o0)(k1:ObsOk o1)(k2:ObsOk o2)(ht:ObsOk t):ObsOk (ndE2 e0 e1 e2 o0 o1 o2 t):=ob_c (by simpa using h) (ob_a (ob_a k2 ob_n) (ob_c (beq_t h1) (ob_a (ob_a k1 ob_n) (ob_c (beq_t h0) (ob_a (ob_a k0 ob_n) ht)))))
def RetE(e:TypeId)(cells:List SV)(er:Int)(t:St):Prop:=resultS prog Tryz.f77 t=some (.tup [zLt,.si .i64 er])/\∃rest,t.M=⟨e,cells,.num⟩::rest
section
variable {N:Nde} {o:List SV->Nat->Bool} (hO:OracleOk prog (OE o N)) {e:TypeId} {cells cs:List SV} {v u:V3} {off len cap i:Nat} {x:Nat->SV} {B:Bs} (K:OkPg cs len) (hca:CellsAt cells off cs) (hP:evPs N v u cs len=true) (hi:i<len) (hE:evF N v u cs i≠0)
include hO K hca hP hi hE
theorem er_round:RunsB prog B eBd (evS e cells (lights (ltF N v u cs) i) v u off len cap i (i:Int) x none) .ret (RetE e cells (evF N v u cs i)):=by
 obtain⟨hck,hnr⟩:=K.at hca hi;have hnd0:nd0 cells off (i:Int)=ndR cs (i*19):=by unfold nd0;rw[tN];exact hnr
 have hH:=evHd_ok (len:=len) hck hi;have p:=evPs_at hP hi;have hnd:=K.nd i hi;have g:∀{a:Int}(k:Nat),0<=a->a<i->evL N v u cs i k a.toNat=ltF N v u cs k a.toNat:=fun _ _ _=>chL_get _ (by omega);have gl:∀{a:Int}(k:Nat),k<3->0<=a->a<i->lcAt (lights (ltF N v u cs) i) k a.toNat=ltF N v u cs k a.toNat:=fun k h3 h0 h1=>(lc_at (lights_at (ltF N v u cs) (by omega)) k h3).1;have fin:∀{d:List Bool}{er:Int}{ob:Obs},er=evF N v u cs i->Lands prog EG (OE o N) 60 eBd (evS e cells (lights (ltF N v u cs) i) v u off len cap i (i:Int) x (some d)) .ret->(evA N o e cells (lights (ltF N v u cs) i) v u off len cap i (i:Int) x d).ob=ob->ObsOk ob->
   resultS prog Tryz.f77 (evA N o e cells (lights (ltF N v u cs) i) v u off len cap i (i:Int) x d)=some (.tup [zLt,.si .i64 er])->(evA N o e cells (lights (ltF N v u cs) i) v u off len cap i (i:Int) x d).M=⟨e,cells,.num⟩::(evA N o e cells (lights (ltF N v u cs) i) v u off len cap i (i:Int) x d).M.tail->
   RunsB prog B eBd (evS e cells (lights (ltF N v u cs) i) v u off len cap i (i:Int) x none) .ret (RetE e cells (evF N v u cs i)):=fun{d er ob}he hL hb ho hr hM=>by
  subst he;exact RunsB.re (d:=some d) (o:=[]) (RunsP.bs (Lands.all goodG hO hL (hb▸ho) ⟨hr,_,hM⟩))
 have hF:evF N v u cs i=evEr N v u (evL N v u cs i) (ndR cs (i*19)):=rfl;have hE':=hE;rw[hF]at hE';generalize hgn:ndR cs (i*19)=n at hnd hnd0 p hF hE';unfold evEr at hF hE';unfold evPB at p;by_cases h5:n.k=5
 ·obtain⟨⟨a0,a1⟩,c0,c1⟩:=okNd_mix hnd h5;rw[dF (show n.k≠6 by omega),cF]at hF hE';have ev:∀k,k<3->mixC N.K (n.f 15) (lcAt (lights (ltF N v u cs) i) k n.a.toNat) (lcAt (lights (ltF N v u cs) i) k n.b.toNat)=evN N v u k (evL N v u cs i k) n:=fun k h3=>by unfold evN;rw[dT h5,cT,gl k h3 a0 a1,gl k h3 c0 c1];show _=mixC N.K (n.f 15) (evL N v u cs i k n.a.toNat) (evL N v u cs i k n.b.toNat);rw[g k a0 a1,g k c0 c1]
  have em:∀k,k<3->mxE0 N cells (lights (ltF N v u cs) i) off (i:Int) k=(evN N v u k (evL N v u cs i k) n).2:=fun k h3=>by unfold mxE0;rw[hnd0,ev k h3]
  have oR:∀k,k<3->ObsOk (rdOb (lights (ltF N v u cs) i) i (nd0 cells off (i:Int)).b k++rdOb (lights (ltF N v u cs) i) i (nd0 cells off (i:Int)).a k):=fun k h3=>by rw[hnd0];exact ob_a (rdOb_ok c0 c1 h3) (rdOb_ok a0 a1 h3)
  have oT:ObsOk ([((nd0 cells off (i:Int)).k==5,true)]++evHd cells off len (i:Int)):=by rw[hnd0];exact ob_a (ob_c (beq_t h5) ob_n) hH
  rcases fst3_n hE' with⟨a,q⟩|⟨z0,a,q⟩|⟨z0,z1,a,q⟩
  ·exact fin (by rw[hF,q,em 0 (by decide)]) (erL_m0 N o e cells _ v u off len cap i (i:Int) x) (erO_m0 N o e cells _ v u off len cap i (i:Int) x) (ndE0_ok (by rw[em 0 (by decide)];exact a) (oR 0 (by decide)) oT) (erR_m0 N o e cells _ v u off len cap i (i:Int) x) (erM_m0 N o e cells _ v u off len cap i (i:Int) x)
  ·exact fin (by rw[hF,q,em 1 (by decide)]) (erL_m1 N o e cells _ v u off len cap i (i:Int) x) (erO_m1 N o e cells _ v u off len cap i (i:Int) x) (ndE1_ok (by rw[em 0 (by decide)];exact z0) (by rw[em 1 (by decide)];exact a) (oR 0 (by decide)) (oR 1 (by decide)) oT) (erR_m1 N o e cells _ v u off len cap i (i:Int) x) (erM_m1 N o e cells _ v u off len cap i (i:Int) x)
  ·exact fin (by rw[hF,q,em 2 (by decide)]) (erL_m2 N o e cells _ v u off len cap i (i:Int) x) (erO_m2 N o e cells _ v u off len cap i (i:Int) x) (ndE2_ok (by rw[em 0 (by decide)];exact z0) (by rw[em 1 (by decide)];exact z1) (by rw[em 2 (by decide)];exact a) (oR 0 (by decide)) (oR 1 (by decide)) (oR 2 (by decide)) oT) (erR_m2 N o e cells _ v u off len cap i (i:Int) x) (erM_m2 N o e cells _ v u off len cap i (i:Int) x)
 by_cases h6:n.k=6
 ·obtain⟨a0,a1⟩:=okNd_coat hnd h6;rw[dT h6,cT]at hF hE';rw[dF h5,cF,dT h6,cT,aTz]at p;have pv:ObsOk (N.dO v.z ⟨n.f 14,n.f 14⟩):=Bu.obsB_ok p.1;have pu:ObsOk (N.dO u.z ⟨n.f 14,n.f 14⟩):=Bu.obsB_ok p.2;have hI:coI cells off (i:Int)=⟨n.f 14,n.f 14⟩:=by unfold coI;rw[hnd0]
  have o56:ObsOk [((nd0 cells off (i:Int)).k==6,true),((nd0 cells off (i:Int)).k==5,false)]:=by rw[hnd0];exact ob_c (beq_t h6) (ob_c (beq_f h5) ob_n)
  by_cases d1:(N.D v.z ⟨n.f 14,n.f 14⟩).2=0
  ·rw[dT d1,cT]at hF hE';by_cases d2:(N.D u.z ⟨n.f 14,n.f 14⟩).2=0
   ·rw[dT d2,cT]at hF hE';have ev:∀k,k<3->overC N.K (N.D v.z ⟨n.f 14,n.f 14⟩).1 (N.D u.z ⟨n.f 14,n.f 14⟩).1 (n.f (3+k)) (lcAt (lights (ltF N v u cs) i) k n.a.toNat)=evN N v u k (evL N v u cs i k) n:=fun k h3=>by unfold evN;rw[dF h5,dT h6,cF,cT,gl k h3 a0 a1];show _=overC N.K (N.D v.z ⟨n.f 14,n.f 14⟩).1 (N.D u.z ⟨n.f 14,n.f 14⟩).1 (n.f (3+k)) (evL N v u cs i k n.a.toNat);rw[g k a0 a1]
    have em:∀k,k<3->(ovE N cells (lights (ltF N v u cs) i) v u off (i:Int) k).2=(evN N v u k (evL N v u cs i k) n).2:=fun k h3=>by unfold ovE;rw[hnd0,ev k h3]
    have oR:∀k,k<3->ObsOk (rdOb (lights (ltF N v u cs) i) i (nd0 cells off (i:Int)).a k):=fun k h3=>by rw[hnd0];exact rdOb_ok a0 a1 h3
    have oT:ObsOk (coO N cells v u off (i:Int) (evHd cells off len (i:Int))):=by unfold coO;rw[hnd0];exact ob_c (beq_t d2) (ob_a (ob_a (ob_a pu (ob_c (ne_0 d1) (ob_a pv ob_n))) (ob_c (beq_t h6) (ob_c (beq_f h5) ob_n))) hH)
    rcases fst3_n hE' with⟨a,q⟩|⟨z0,a,q⟩|⟨z0,z1,a,q⟩
    ·exact fin (by rw[hF,q,em 0 (by decide)]) (erL_c0 N o e cells _ v u off len cap i (i:Int) x) (erO_c0 N o e cells _ v u off len cap i (i:Int) x) (ndE0_ok (by rw[em 0 (by decide)];exact a) (oR 0 (by decide)) oT) (erR_c0 N o e cells _ v u off len cap i (i:Int) x) (erM_c0 N o e cells _ v u off len cap i (i:Int) x)
    ·exact fin (by rw[hF,q,em 1 (by decide)]) (erL_c1 N o e cells _ v u off len cap i (i:Int) x) (erO_c1 N o e cells _ v u off len cap i (i:Int) x) (ndE1_ok (by rw[em 0 (by decide)];exact z0) (by rw[em 1 (by decide)];exact a) (oR 0 (by decide)) (oR 1 (by decide)) oT) (erR_c1 N o e cells _ v u off len cap i (i:Int) x) (erM_c1 N o e cells _ v u off len cap i (i:Int) x)
    ·exact fin (by rw[hF,q,em 2 (by decide)]) (erL_c2 N o e cells _ v u off len cap i (i:Int) x) (erO_c2 N o e cells _ v u off len cap i (i:Int) x) (ndE2_ok (by rw[em 0 (by decide)];exact z0) (by rw[em 1 (by decide)];exact z1) (by rw[em 2 (by decide)];exact a) (oR 0 (by decide)) (oR 1 (by decide)) (oR 2 (by decide)) oT) (erR_c2 N o e cells _ v u off len cap i (i:Int) x) (erM_c2 N o e cells _ v u off len cap i (i:Int) x)
   ·rw[dF d2,cF]at hF;refine fin (by rw[hF,hI]) (erL_cu N o e cells _ v u off len cap i (i:Int) x) (erO_cu N o e cells _ v u off len cap i (i:Int) x) ?_ (erR_cu N o e cells _ v u off len cap i (i:Int) x) (erM_cu N o e cells _ v u off len cap i (i:Int) x);unfold coU;rw[hI];exact ob_c (by simpa using d2) (ob_c (beq_f d2) (ob_a (ob_a (ob_a pu (ob_c (ne_0 d1) (ob_a pv ob_n))) o56) hH))
  ·rw[dF d1,cF]at hF;refine fin (by rw[hF,hI]) (erL_cv N o e cells _ v u off len cap i (i:Int) x) (erO_cv N o e cells _ v u off len cap i (i:Int) x) ?_ (erR_cv N o e cells _ v u off len cap i (i:Int) x) (erM_cv N o e cells _ v u off len cap i (i:Int) x);unfold coV;rw[hI];exact ob_c (by simpa using d1) (ob_c (beq_f d1) (ob_a (ob_a (ob_c (by simpa using d1) (ob_a pv ob_n)) o56) hH))
 ·rw[dF h6,cF]at hF hE';rw[dF h5,dF h6,cF,cF]at p;simp only[aTz]at p;obtain⟨l0,l1,l2⟩:=p;have em:∀k,lfE0 N v u cells off (i:Int) k=(evN N v u k (evL N v u cs i k) n).2:=fun k=>by unfold lfE0 evN;rw[hnd0,dF h5,dF h6,cF,cF]
  have o0:ObsOk (lfOb N v u (nd0 cells off (i:Int)) 0):=by rw[hnd0];exact Bu.obsB_ok l0
  have o1:ObsOk (lfOb N v u (nd0 cells off (i:Int)) 1):=by rw[hnd0];exact Bu.obsB_ok l1
  have o2:ObsOk (lfOb N v u (nd0 cells off (i:Int)) 2):=by rw[hnd0];exact Bu.obsB_ok l2
  have oT:ObsOk ([((nd0 cells off (i:Int)).k==6,false),((nd0 cells off (i:Int)).k==5,false)]++evHd cells off len (i:Int)):=by rw[hnd0];exact ob_a (ob_c (beq_f h6) (ob_c (beq_f h5) ob_n)) hH
  rcases fst3_n hE' with⟨a,q⟩|⟨z0,a,q⟩|⟨z0,z1,a,q⟩
  ·exact fin (by rw[hF,q,em 0]) (erL_l0 N o e cells _ v u off len cap i (i:Int) x) (erO_l0 N o e cells _ v u off len cap i (i:Int) x) (ndE0_ok (by rw[em 0];exact a) o0 oT) (erR_l0 N o e cells _ v u off len cap i (i:Int) x) (erM_l0 N o e cells _ v u off len cap i (i:Int) x)
  ·exact fin (by rw[hF,q,em 1]) (erL_l1 N o e cells _ v u off len cap i (i:Int) x) (erO_l1 N o e cells _ v u off len cap i (i:Int) x) (ndE1_ok (by rw[em 0];exact z0) (by rw[em 1];exact a) o0 o1 oT) (erR_l1 N o e cells _ v u off len cap i (i:Int) x) (erM_l1 N o e cells _ v u off len cap i (i:Int) x)
  ·exact fin (by rw[hF,q,em 2]) (erL_l2 N o e cells _ v u off len cap i (i:Int) x) (erO_l2 N o e cells _ v u off len cap i (i:Int) x) (ndE2_ok (by rw[em 0];exact z0) (by rw[em 1];exact z1) (by rw[em 2];exact a) o0 o1 o2 oT) (erR_l2 N o e cells _ v u off len cap i (i:Int) x) (erM_l2 N o e cells _ v u off len cap i (i:Int) x)
end
section
variable {N:Nde} {o:List SV->Nat->Bool} (hO:OracleOk prog (OE o N)) {e:TypeId} {cells cs:List SV} {v u:V3} {off len cap:Nat} {x:Nat->SV} {B:Bs} (K:OkPg cs len) (hca:CellsAt cells off cs) (hP:evPs N v u cs len=true) (hE:evF N v u cs 0≠0)
include hO K hca hP hE
theorem er_first:RunsB prog B eBd (evS0 e cells v u off len cap ((0:Nat):Int) x none) .ret (RetE e cells (evF N v u cs 0)):=by
 have hi:0<len:=K.lo;obtain⟨hck,hnr⟩:=K.at hca hi;have hnd0:nd0 cells off ((0:Nat):Int)=ndR cs (0*19):=by unfold nd0;rw[tN];exact hnr
 have hH:=evHd_ok (len:=len) hck hi;have p:=evPs_at hP hi;have hnd:=K.nd 0 hi;have fin:∀{d:List Bool}{er:Int}{ob:Obs},er=evF N v u cs 0->Lands prog EG (OE o N) 60 eBd (evS0 e cells v u off len cap ((0:Nat):Int) x (some d)) .ret->(ezR N o e cells v u off len cap ((0:Nat):Int) x d).ob=ob->ObsOk ob->
   resultS prog Tryz.f77 (ezR N o e cells v u off len cap ((0:Nat):Int) x d)=some (.tup [zLt,.si .i64 er])->(ezR N o e cells v u off len cap ((0:Nat):Int) x d).M=⟨e,cells,.num⟩::(ezR N o e cells v u off len cap ((0:Nat):Int) x d).M.tail->
   RunsB prog B eBd (evS0 e cells v u off len cap ((0:Nat):Int) x none) .ret (RetE e cells (evF N v u cs 0)):=fun{d er ob}he hL hb ho hr hM=>by
  subst he;exact RunsB.re (d:=some d) (o:=[]) (RunsP.bs (Lands.all goodG hO hL (hb▸ho) ⟨hr,_,hM⟩))
 have hF:evF N v u cs 0=evEr N v u (evL N v u cs 0) (ndR cs (0*19)):=rfl;have hE':=hE;rw[hF]at hE';generalize hgn:ndR cs (0*19)=n at hnd hnd0 p hF hE';unfold evEr at hF hE';unfold evPB at p;have h5:n.k≠5:=fun h5=>by obtain⟨⟨a0,a1⟩,_⟩:=okNd_mix hnd h5;have:((0:Nat):Int)=0:=rfl;omega
 have h6:n.k≠6:=fun h6=>by obtain⟨a0,a1⟩:=okNd_coat hnd h6;have:((0:Nat):Int)=0:=rfl;omega
 rw[dF h6,cF]at hF hE';rw[dF h5,dF h6,cF,cF]at p;simp only[aTz]at p;obtain⟨l0,l1,l2⟩:=p;have em:∀k,lfE0 N v u cells off ((0:Nat):Int) k=(evN N v u k (evL N v u cs 0 k) n).2:=fun k=>by unfold lfE0 evN;rw[hnd0,dF h5,dF h6,cF,cF]
 have o0:ObsOk (lfOb N v u (nd0 cells off ((0:Nat):Int)) 0):=by rw[hnd0];exact Bu.obsB_ok l0
 have o1:ObsOk (lfOb N v u (nd0 cells off ((0:Nat):Int)) 1):=by rw[hnd0];exact Bu.obsB_ok l1
 have o2:ObsOk (lfOb N v u (nd0 cells off ((0:Nat):Int)) 2):=by rw[hnd0];exact Bu.obsB_ok l2
 have oT:ObsOk ([((nd0 cells off ((0:Nat):Int)).k==6,false),((nd0 cells off ((0:Nat):Int)).k==5,false)]++evHd cells off len ((0:Nat):Int)):=by rw[hnd0];exact ob_a (ob_c (beq_f h6) (ob_c (beq_f h5) ob_n)) hH
 rcases fst3_n hE' with⟨a,q⟩|⟨z0,a,q⟩|⟨z0,z1,a,q⟩
 ·exact fin (by rw[hF,q,em 0]) (erL_z0 N o e cells v u off len cap ((0:Nat):Int) x) (erO_z0 N o e cells v u off len cap ((0:Nat):Int) x) (ndE0_ok (by rw[em 0];exact a) o0 oT) (erR_z0 N o e cells v u off len cap ((0:Nat):Int) x) (erM_z0 N o e cells v u off len cap ((0:Nat):Int) x)
 ·exact fin (by rw[hF,q,em 1]) (erL_z1 N o e cells v u off len cap ((0:Nat):Int) x) (erO_z1 N o e cells v u off len cap ((0:Nat):Int) x) (ndE1_ok (by rw[em 0];exact z0) (by rw[em 1];exact a) o0 o1 oT) (erR_z1 N o e cells v u off len cap ((0:Nat):Int) x) (erM_z1 N o e cells v u off len cap ((0:Nat):Int) x)
 ·exact fin (by rw[hF,q,em 2]) (erL_z2 N o e cells v u off len cap ((0:Nat):Int) x) (erO_z2 N o e cells v u off len cap ((0:Nat):Int) x) (ndE2_ok (by rw[em 0];exact z0) (by rw[em 1];exact z1) (by rw[em 2];exact a) o0 o1 o2 oT) (erR_z2 N o e cells v u off len cap ((0:Nat):Int) x) (erM_z2 N o e cells v u off len cap ((0:Nat):Int) x)
end
theorem evE_up{N:Nde}{v u:V3}{cs:List SV}{i:Nat}(h:evE N v u cs i≠0):∀{j:Nat},i<=j->evE N v u cs j=evE N v u cs i
 | 0, hj => by
   have:i=0:=by omega
   subst this;rfl
 | j + 1, hj => by
   by_cases e:i=j+1
   ·subst e;rfl
   ·have ih:=evE_up h (j:=j) (by omega);show(bif decide (evE N v u cs j=0)then evF N v u cs j else evE N v u cs j)=evE N v u cs i;rw[ih,dF h,cF]
theorem evE_0{N:Nde}{v u:V3}{cs:List SV}:∀{j:Nat},evE N v u cs j=0->∀i,i<j->evF N v u cs i=0/\evE N v u cs i=0
 |0,_,i,hi=>by omega
 | j + 1, h, i, hi => by
   have hj:evE N v u cs j=0:=by
    by_cases e:evE N v u cs j=0
    ·exact e
    ·unfold evE at h;rw[dF e,cF]at h;exact absurd h e
   rcases Nat.lt_or_ge i j with h1|h1
   ·exact evE_0 hj i h1
   ·have:i=j:=by omega
    subst this;refine⟨?_,hj⟩;unfold evE at h;rw[dT hj,cT]at h;exact h
theorem evB_of{N:Nde}{v u:V3}{cs:List SV}{len:Nat}(hP:evPs N v u cs len=true)(h:evE N v u cs len=0):evB N v u cs len=true:=
 List.all_eq_true.2 fun i hi=>evNB_of (evE_0 h i (List.mem_range.1 hi)).1 (evPs_at hP (List.mem_range.1 hi))
noncomputable def evSt(N:Nde)(e:TypeId)(cells cs:List SV)(v u:V3)(off len cap:Nat)(y:Nat->SV):Nat->St
 |0=>evS0 e cells v u off len cap ((0:Nat):Int) y none
 |j+1=>evS e cells (lights (ltF N v u cs) (j+1)) v u off len cap (j+1) ((j+1:Nat):Int) y none
section
variable {N:Nde} {o:List SV->Nat->Bool} (hO:OracleOk prog (OE o N)) {e:TypeId} {cells cs:List SV} {v u:V3} {off len cap:Nat} {B:Bs} (hB1:B.M.length=1) (K:OkPg cs len) (hca:CellsAt cells off cs) (hP:evPs N v u cs len=true) (hE:evE N v u cs len≠0)
include hO hB1 K hca hP hE
theorem er_loop(x:Nat->SV):RunsB prog B (.block 0 (.loop eBd)) (evSt N e cells cs v u off len cap x 0) .ret (RetE e cells (evE N v u cs len)):=by
 have hlo:=K.lo;refine loop_retB (fun p:Nat×(Nat->SV)=>evSt N e cells cs v u off len cap p.2 p.1) (fun p=>len-p.1) (fun p=>p.1<len/\evE N v u cs p.1=0) ?_ (0,x) ⟨by show 0<len;omega,rfl⟩;rintro⟨j,y⟩ ⟨h1,h2⟩;simp only at h1 h2 ⊢;have hs:evE N v u cs (j+1)=evF N v u cs j:=by show(bif decide (evE N v u cs j=0)then evF N v u cs j else evE N v u cs j)=_;rw[dT h2,cT]
 by_cases hF:evF N v u cs j=0
 ·right;have hj:j+1<len:=by
   rcases Nat.lt_or_ge (j+1) len with h|h
   ·exact h
   ·have:j+1=len:=by omega
    rw[this]at hs;rw[hs]at hE;exact absurd hF hE
  have b:=evNB_of hF (evPs_at hP h1);have nx:∀t:St,(∃x',t=evSt N e cells cs v u off len cap x' (j+1))->∃q:Nat×(Nat->SV),(q.1<len/\evE N v u cs q.1=0)/\len-q.1<len-j/\t=evSt N e cells cs v u off len cap q.2 q.1:=fun t ⟨x',ht⟩=>⟨(j+1,x'),⟨hj,by rw[hs];exact hF⟩,by show len-(j+1)<len-j;omega,ht⟩;cases j with
  |zero=>exact RunsB.mono (ev_first hO hB1 K hca b) nx
  |succ j=>exact RunsB.mono (ev_round hO hB1 K hca b h1) nx
 ·left;have hR:evE N v u cs len=evF N v u cs j:=by
   have h3:evE N v u cs (j+1)≠0:=by rw[hs];exact hF
   rw[evE_up h3 (show j+1<=len by omega),hs]
  rw[hR];cases j with
  |zero=>exact er_first hO K hca hP hF
  |succ j=>exact er_round hO K hca hP h1 hF
set_option maxRecDepth 20000 in
theorem er_all(ho:o ((cells.drop off).take (len*19)) len=true)(hd:ObsOk (vcO u++vcO v)):RunsB prog B eC (eEn e cells v u off len cap none) .ret (RetE e cells (evE N v u cs len)):=by
 have hE4:ObsOk (evEO o cells v u off len):=by have hu:ObsOk (vcO u):=fun p hp=>hd p (List.mem_append_left _ hp);have hv:ObsOk (vcO v):=fun p hp=>hd p (List.mem_append_right _ hp);exact ob_a hu (ob_a hv (ob_c ho ob_n))
 refine RunsB.re (d:=some (List.replicate 18 true)) (o:=[]) ((evL4 N o e cells v u off len cap).ok goodG hO (by rw[evO4];exact hE4) ?_);rw[eC_cut];refine RunsB.seq_ret (LandsB.seq goodG hO (evL5 N o e cells v u off len cap) (by rw[evO5];exact hE4) ?_);refine RunsB.keep (ids:=[0,1,2,3]) rfl (evM5 N o e cells v u off len cap) (fun n hn=>by
  rw[hB1]at hn;have:n=0:=by omega
  subst this;rfl) fun vv=> ?_
 have hs:SameSt (evS0 e cells v u off len cap ((0:Nat):Int) (ev5X N o e cells v u off len cap vv) none) ((ev5 N o e cells v u off len cap).sel [0,1,2,3] (evP e cells v u) vv):=by refine same_T (fun m=> ?_) rfl;rw[evT5];simp only[evS0,evT,dens,den,Int.natCast_zero]
 exact RunsB.retell hs (er_loop hO hB1 K hca hP hE _)
end
def zCh:Ch:=⟨⟨toF 0,toF 0⟩,⟨toF 0,toF 0⟩⟩
def eeC(N:Nde)(v u:V3)(cs:List SV)(len k:Nat):Ch:=bif decide (evE N v u cs len=0)then ltF N v u cs k (len-1)else zCh
structure Nev where
 o:List SV->Nat->Bool
 g:V3->V3->List SV->Nat->Nat->Ch
 e:V3->V3->List SV->Nat->Int
 b:V3->V3->List SV->Nat->Bool
def neV(N:Nde):Nev:=⟨okPg,eeC N,evE N,evPs N⟩
def kEv_(E:Nev):RdF:=fun cs len l ds=>match l with
 | [.agg [.fl x0, .fl x1, .fl x2, .fl x3, .fl x4, .fl x5], .agg [.fl y0, .fl y1, .fl y2, .fl y3, .fl y4, .fl y5]] =>
   some (.tup [.agg (ltC (E.g ⟨⟨x0,x1⟩,⟨x2,x3⟩,⟨x4,x5⟩⟩ ⟨⟨y0,y1⟩,⟨y2,y3⟩,⟨y4,y5⟩⟩ cs len)),.si .i64 (E.e ⟨⟨x0,x1⟩,⟨x2,x3⟩,⟨x4,x5⟩⟩ ⟨⟨y0,y1⟩,⟨y2,y3⟩,⟨y4,y5⟩⟩ cs len)],ds,
    (decide (cs.length=len*19),true)::(E.o cs len,true)::(E.b ⟨⟨x0,x1⟩,⟨x2,x3⟩,⟨x4,x5⟩⟩ ⟨⟨y0,y1⟩,⟨y2,y3⟩,⟨y4,y5⟩⟩ cs len,true)::(vcO ⟨⟨y0,y1⟩,⟨y2,y3⟩,⟨y4,y5⟩⟩++vcO ⟨⟨x0,x1⟩,⟨x2,x3⟩,⟨x4,x5⟩⟩))
 |_=>none
theorem ltE_plain(c:Nat->Ch)(e:Int):plain (.tup [.agg (ltC c),.si .i64 e])=some (.tuple #[ltV c,.int .i64 e]):=rfl
theorem evlRdE{N:Nde}(hO:OracleOk prog (OE okPg N)):RdOk prog 77 (kEv_ (neV N)):=by
 intro cs len l ds x ds' ob h ho;unfold kEv_ at h;split at h
 ·rename_i x0 x1 x2 x3 x4 x5 y0 y1 y2 y3 y4 y5;simp only[sIz,pIz]at h;obtain⟨rfl,_,rfl⟩:=h;have hl:cs.length=len*19:=oTz (ho _ (List.mem_cons_self ..));have hok:okPg cs len=true:=ho _ (List.mem_cons_of_mem _ (List.mem_cons_self ..));have K:=okPg_ok hok;have hP:evPs N ⟨⟨x0,x1⟩,⟨x2,x3⟩,⟨x4,x5⟩⟩ ⟨⟨y0,y1⟩,⟨y2,y3⟩,⟨y4,y5⟩⟩ cs len=true:=ho _ (List.mem_cons_of_mem _ (List.mem_cons_of_mem _ (List.mem_cons_self ..)));have hd:ObsOk (vcO ⟨⟨y0,y1⟩,⟨y2,y3⟩,⟨y4,y5⟩⟩++vcO ⟨⟨x0,x1⟩,⟨x2,x3⟩,⟨x4,x5⟩⟩):=fun p hp=>ho p (List.mem_cons_of_mem _ (List.mem_cons_of_mem _ (List.mem_cons_of_mem _ hp)));obtain⟨vc,hc⟩:=K.pl;have hok':∀{cells:List SV}{off:Nat},CellsAt cells off cs->okPg ((cells.drop off).take (len*19)) len=true:=fun hca=>by rw[<-hl,at_take hca];exact hok
  refine⟨vc,_,_,hc,rfl,ltE_plain _ _,fun w r off cap hw=> ?_⟩;by_cases hE:evE N ⟨⟨x0,x1⟩,⟨x2,x3⟩,⟨x4,x5⟩⟩ ⟨⟨y0,y1⟩,⟨y2,y3⟩,⟨y4,y5⟩⟩ cs len=0
  ·have e1:(neV N).e ⟨⟨x0,x1⟩,⟨x2,x3⟩,⟨x4,x5⟩⟩ ⟨⟨y0,y1⟩,⟨y2,y3⟩,⟨y4,y5⟩⟩ cs len=0:=hE;have e2:(neV N).g ⟨⟨x0,x1⟩,⟨x2,x3⟩,⟨x4,x5⟩⟩ ⟨⟨y0,y1⟩,⟨y2,y3⟩,⟨y4,y5⟩⟩ cs len=fun k=>ltF N ⟨⟨x0,x1⟩,⟨x2,x3⟩,⟨x4,x5⟩⟩ ⟨⟨y0,y1⟩,⟨y2,y3⟩,⟨y4,y5⟩⟩ cs k (len-1):=by funext k;show eeC N _ _ cs len k=_;unfold eeC;rw[dT hE,cT]
   rw[e1,e2];refine rd_of_runsB (d:=none) Tryz.func77 eBody hc (l:=[.agg [.fl x0,.fl x1,.fl x2,.fl x3,.fl x4,.fl x5],.agg [.fl y0,.fl y1,.fl y2,.fl y3,.fl y4,.fl y5]]) rfl (lt_plain _) (fun e cells off cap hca hid B hBM=> ?_) w r off cap hw;exact ev_all (v:=⟨⟨x0,x1⟩,⟨x2,x3⟩,⟨x4,x5⟩⟩) (u:=⟨⟨y0,y1⟩,⟨y2,y3⟩,⟨y4,y5⟩⟩) hO (by rw[hBM];rfl) K hca (evB_of hP hE) (hok' hca) hd hBM
  ·have e2:(neV N).g ⟨⟨x0,x1⟩,⟨x2,x3⟩,⟨x4,x5⟩⟩ ⟨⟨y0,y1⟩,⟨y2,y3⟩,⟨y4,y5⟩⟩ cs len=fun _=>zCh:=by funext k;show eeC N _ _ cs len k=_;unfold eeC;rw[dF hE,cF]
   rw[e2];refine rd_of_runsB (d:=none) Tryz.func77 eBody hc (l:=[.agg [.fl x0,.fl x1,.fl x2,.fl x3,.fl x4,.fl x5],.agg [.fl y0,.fl y1,.fl y2,.fl y3,.fl y4,.fl y5]]) rfl (x:= .tup [zLt,.si .i64 (evE N ⟨⟨x0,x1⟩,⟨x2,x3⟩,⟨x4,x5⟩⟩ ⟨⟨y0,y1⟩,⟨y2,y3⟩,⟨y4,y5⟩⟩ cs len)]) rfl (fun e cells off cap hca hid B hBM=> ?_) w r off cap hw;exact er_all (v:=⟨⟨x0,x1⟩,⟨x2,x3⟩,⟨x4,x5⟩⟩) (u:=⟨⟨y0,y1⟩,⟨y2,y3⟩,⟨y4,y5⟩⟩) hO (by rw[hBM];rfl) K hca hP hE (hok' hca) hd
 ·cases h
noncomputable def EvR:Nev:=neV NeR
theorem evK_:RdOk prog 77 (kEv_ EvR):=evlRdE oracleOE
def ODR(K:Kk)(N:Kq):OracleF:=lookO (OCL K++ [(161,plainO (kSC N.ib N.si N.co)),(70,plainO (kOf N.uo N.u))])
def drA0(v:V3)(al:I)(a b:Int):List SV:=[v.sv,ivS al,.si .u64 a,.si .u64 b]
def t13:List Bool:=[true,true,true,true,true,true,true,true,true,true,true,true,true]
def drOq(N:Kq)(v:V3)(al:I)(b:Int):Obs:=(N.ib (N.uo b),true)::(N.u b,true)::(dirO v++alO al)
theorem drRunA0(K:Kk)(N:Kq)(v:V3)(al:I)(a b:Int):valR ((run prog EG (ODR K N) 80).1 182 (drA0 v al a b) [] (some (t13++ [true,true,false])))=
  some (.tup [V3.zero.sv,.si .i64 (evalK K drTa (drEnv N v al a b) 0).2],some [],(decide ((evalK K drTa (drEnv N v al a b) 0).2=0),false)::(neB (evalK K drTa (drEnv N v al a b) 0).2,true)::(decide ((drQ K (drEnv N v al a b)).hi.k=z64.k),true)::drOq N v al b):=by kernel_rfl
theorem drRunA1(K:Kk)(N:Kq)(v:V3)(al:I)(a b:Int):valR ((run prog EG (ODR K N) 80).1 182 (drA0 v al a b) [] (some (t13++ [true,false,true])))=
  some (.tup [V3.zero.sv,.si .i64 (evalK K drA (drEnv N v al a b) 0).2],some [],(neB (evalK K drA (drEnv N v al a b) 0).2,true)::(N.u a,true)::(neB (evalK K drTa (drEnv N v al a b) 0).2,false)::(decide ((drQ K (drEnv N v al a b)).hi.k=z64.k),true)::drOq N v al b):=by kernel_rfl
theorem drRunA2(K:Kk)(N:Kq)(v:V3)(al:I)(a b:Int):valR ((run prog EG (ODR K N) 80).1 182 (drA0 v al a b) [] (some (t13++ [true,false,false])))=
  some (.tup [(drV K drA (drEnv N v al a b)).sv,.i .i64 0],some [],(neB (evalK K drA (drEnv N v al a b) 0).2,false)::(N.u a,true)::(neB (evalK K drTa (drEnv N v al a b) 0).2,false)::(decide ((drQ K (drEnv N v al a b)).hi.k=z64.k),true)::drOq N v al b):=by kernel_rfl
theorem drRunB0(K:Kk)(N:Kq)(v:V3)(al:I)(a b:Int):valR ((run prog EG (ODR K N) 80).1 182 (drA0 v al a b) [] (some (t13++ [false,true,true,false])))=
  some (.tup [V3.zero.sv,.si .i64 (evalK K drTb (drEnv N v al a b) 0).2],some [],(decide ((evalK K drTb (drEnv N v al a b) 0).2=0),false)::(neB (evalK K drTb (drEnv N v al a b) 0).2,true)::(decide (z64.k<(drQ K (drEnv N v al a b)).lo.k),true)::(decide ((drQ K (drEnv N v al a b)).hi.k=z64.k),false)::drOq N v al b):=by kernel_rfl
theorem drRunB1(K:Kk)(N:Kq)(v:V3)(al:I)(a b:Int):valR ((run prog EG (ODR K N) 80).1 182 (drA0 v al a b) [] (some (t13++ [false,true,false,true])))=
  some (.tup [V3.zero.sv,.si .i64 (evalK K drB (drEnv N v al a b) 0).2],some [],(neB (evalK K drB (drEnv N v al a b) 0).2,true)::(N.u a,true)::(neB (evalK K drTb (drEnv N v al a b) 0).2,false)::(decide (z64.k<(drQ K (drEnv N v al a b)).lo.k),true)::(decide ((drQ K (drEnv N v al a b)).hi.k=z64.k),false)::drOq N v al b):=by kernel_rfl
theorem drRunB2(K:Kk)(N:Kq)(v:V3)(al:I)(a b:Int):valR ((run prog EG (ODR K N) 80).1 182 (drA0 v al a b) [] (some (t13++ [false,true,false,false])))=
  some (.tup [(drV K drB (drEnv N v al a b)).sv,.i .i64 0],some [],(neB (evalK K drB (drEnv N v al a b) 0).2,false)::(N.u a,true)::(neB (evalK K drTb (drEnv N v al a b) 0).2,false)::(decide (z64.k<(drQ K (drEnv N v al a b)).lo.k),true)::(decide ((drQ K (drEnv N v al a b)).hi.k=z64.k),false)::drOq N v al b):=by kernel_rfl
theorem drRunN0(K:Kk)(N:Kq)(v:V3)(al:I)(a b:Int):valR ((run prog EG (ODR K N) 80).1 182 (drA0 v al a b) [] (some (t13++ [false,false,true,false])))=
  some (.tup [V3.zero.sv,.si .i64 (evalK K drP1 (drEnv N v al a b) 0).2],some [],(decide ((evalK K drP1 (drEnv N v al a b) 0).2=0),false)::(neB (evalK K drP1 (drEnv N v al a b) 0).2,true)::(decide (z64.k<(drQ K (drEnv N v al a b)).lo.k),false)::(decide ((drQ K (drEnv N v al a b)).hi.k=z64.k),false)::drOq N v al b):=by kernel_rfl
theorem drRunN1(K:Kk)(N:Kq)(v:V3)(al:I)(a b:Int):valR ((run prog EG (ODR K N) 80).1 182 (drA0 v al a b) [] (some (t13++ [false,false,false,true])))=
  some (.tup [V3.zero.sv,.i .i64 11],some [],(decide ((evalK K drP1 (drEnv N v al a b) 0).2=0),true)::(neB (evalK K drP1 (drEnv N v al a b) 0).2,false)::(decide (z64.k<(drQ K (drEnv N v al a b)).lo.k),false)::(decide ((drQ K (drEnv N v al a b)).hi.k=z64.k),false)::drOq N v al b):=by kernel_rfl
theorem drRunW(K:Kk)(N:Kq)(v:V3)(al:I)(a b:Int):valR ((run prog EG (ODR K N) 80).1 182 (drA0 v al a b) [] (some [true,true,false,true,true,true]))=
  some (.tup [V3.zero.sv,.i .i64 2],some [],[(rt v.z,true),(rt v.y,true),(rt v.x,true),(decide (al.hi.k<=one64.k),false),(decide (minA.k<=al.lo.k),true),(rt al,true)]):=by kernel_rfl
theorem oracleDR:OracleOk prog (ODR KkR (KqR atR)):= .cons addC (.cons subC (.cons mulC (.cons divC (.cons cmax_I (.cons sqrC (.cons csqrt_I (.cons negC (.cons numC (.cons irtK.of (.cons rightG.of (.cons absG.of (.cons vwG.of (.cons piG.of (.cons scK.of (.cons unitG.of (.nil _))))))))))))))))
theorem neB_d{e:Int}:decide (e=0)= !neB e:=by unfold neB;by_cases h:e=0<;>simp[h]
theorem obsK_c{c b:Bool}{ob:Obs}(h:c=b)(k:ObsOk ob):ObsOk ((c,b)::ob):=fun q hq=>by
 rcases List.mem_cons.1 hq with rfl|hq
 ·exact h
 ·exact k q hq
theorem pvT(V:V3)(k:Int):plain (.tup [V.sv,.i .i64 k])=some (.tuple #[.agg #[.float .f64 V.x.lo.b,.float .f64 V.x.hi.b,.float .f64 V.y.lo.b,.float .f64 V.y.hi.b,.float .f64 V.z.lo.b,.float .f64 V.z.hi.b],.int .i64 k]):=rfl
def vdG(K:Kk)(N:Kq)(v:V3)(al:I)(a b:Int):V3×Int:=drR K (drEnv N v al a b)
theorem drG_of(K:Kk)(N:Kq)(hO0:OracleOk prog (ODR K N)):PlainOk prog 182 (kVd (vdG K N) (drO N)):=by
 intro args ds x ds' ob h ho;unfold kVd at h;split at h
 ·rename_i x1 x2 y1 y2 z1 z2 g1 g2 p1 p2;split at h
  ·rename_i n m hn hm;simp only[mIz,pIz]at h;obtain⟨⟨r,e,o⟩,h1,rfl,rfl,rfl⟩:=h;have hd:r=decide (g2.k<=one64.k):=takeB_ok h1 fun q hq=>ho q (List.mem_append_right _ hq);have hO:=fun q(hq:q∈(bif r then drO N ⟨⟨x1,x2⟩,⟨y1,y2⟩,⟨z1,z2⟩⟩ ⟨g1,g2⟩ n m else drOw ⟨⟨x1,x2⟩,⟨y1,y2⟩,⟨z1,z2⟩⟩ ⟨g1,g2⟩))=>ho q (List.mem_append_left _ hq);generalize hv:(⟨⟨x1,x2⟩,⟨y1,y2⟩,⟨z1,z2⟩⟩:V3)=v at*;generalize hal:(⟨g1,g2⟩:I)=al at*;have e1:(.agg [.fl x1,.fl x2,.fl y1,.fl y2,.fl z1,.fl z2]:SV)=v.sv:=by subst hv;rfl
   have e2:(.agg [.fl g1,.fl g2]:SV)=ivS al:=by subst hal;rfl
   rw[e1,e2];have pv:∀v:V3,plain v.sv=some (.agg #[.float .f64 v.x.lo.b,.float .f64 v.x.hi.b,.float .f64 v.y.lo.b,.float .f64 v.y.hi.b,.float .f64 v.z.lo.b,.float .f64 v.z.hi.b]):=fun _=>rfl;have hargs:plains [v.sv,ivS al,p1,p2]=some [.agg #[.float .f64 v.x.lo.b,.float .f64 v.x.hi.b,.float .f64 v.y.lo.b,.float .f64 v.y.hi.b,.float .f64 v.z.lo.b,.float .f64 v.z.hi.b],.agg #[.float .f64 al.lo.b,.float .f64 al.hi.b],.int .u64 n,.int .u64 m]:=
    plains_cons (pv v) (plains_cons rfl (plains_cons (intS_plain hn) (plains_cons (intS_plain hm) plains_nil)))
   have hal2:al.hi.k=g2.k:=by subst hal;rfl
   cases r
   ·refine⟨_,_,hargs,rfl,fun w=> ?_⟩;refine calls_of_val goodG hO0 80 (drRunW K N v al n m) (fun q hq=> ?_) rfl rfl w;simp only[List.mem_cons,List.not_mem_nil,or_false]at hq;rcases hq with rfl|rfl|rfl|rfl|rfl|rfl
    ·exact hO (_,true) (by simp[drOw])
    ·exact hO (_,true) (by simp[drOw])
    ·exact hO (_,true) (by simp[drOw])
    ·show decide (al.hi.k<=one64.k)=false;rw[hal2];exact hd.symm
    ·exact hO (_,true) (by simp[drOw])
    ·exact hO (_,true) (by simp[drOw])
   ·have hu:N.u n=true:=hO (_,true) (by simp[drO]);have hq0:ObsOk (drOq N v al m):=fun q hq=>hO q (by simp only[cT,drO];simp only[drOq,List.mem_cons]at hq;simp only[List.cons_append,List.nil_append,List.append_assoc,List.mem_cons];exact .inr hq);have pvR:plain (.tup [(vdG K N v al n m).1.sv,.si .i64 (vdG K N v al n m).2])=some (.tuple #[.agg #[.float .f64 (vdG K N v al n m).1.x.lo.b,.float .f64 (vdG K N v al n m).1.x.hi.b,.float .f64 (vdG K N v al n m).1.y.lo.b,.float .f64 (vdG K N v al n m).1.y.hi.b,.float .f64 (vdG K N v al n m).1.z.lo.b,.float .f64 (vdG K N v al n m).1.z.hi.b],.int .i64 (vdG K N v al n m).2]):=rfl;refine⟨_,_,hargs,pvR,fun w=> ?_⟩;unfold vdG drR;have hE:drEnv N v al n m=drEnv N v al n m:=rfl;cases c1:decide ((drQ K (drEnv N v al n m)).hi.k=z64.k)
    ·cases c2:decide (z64.k<(drQ K (drEnv N v al n m)).lo.k)
     ·simp only[cF,drN];cases c3:neB (evalK K drP1 (drEnv N v al n m) 0).2
      ·simp only[cF];exact calls_of_val goodG hO0 80 (drRunN1 K N v al n m) (obsK_c (by rw[neB_d,c3];rfl) (obsK_c c3 (obsK_c c2 (obsK_c c1 hq0)))) rfl rfl w
      ·simp only[cT];exact calls_of_val goodG hO0 80 (drRunN0 K N v al n m) (obsK_c (by rw[neB_d,c3];rfl) (obsK_c c3 (obsK_c c2 (obsK_c c1 hq0)))) rfl rfl w
     ·simp only[cF,cT,drX];cases c3:neB (evalK K drTb (drEnv N v al n m) 0).2
      ·simp only[cF];cases c4:neB (evalK K drB (drEnv N v al n m) 0).2
       ·simp only[cF];have r:=drRunB2 K N v al n m;generalize drV K drB (drEnv N v al n m)=V at r ⊢;exact calls_of_val goodG hO0 80 r (obsK_c c4 (obsK_c hu (obsK_c c3 (obsK_c c2 (obsK_c c1 hq0))))) rfl (pvT V 0) w
       ·simp only[cT];exact calls_of_val goodG hO0 80 (drRunB1 K N v al n m) (obsK_c c4 (obsK_c hu (obsK_c c3 (obsK_c c2 (obsK_c c1 hq0))))) rfl rfl w
      ·simp only[cT];exact calls_of_val goodG hO0 80 (drRunB0 K N v al n m) (obsK_c (by rw[neB_d,c3];rfl) (obsK_c c3 (obsK_c c2 (obsK_c c1 hq0)))) rfl rfl w
    ·simp only[cT,drX];cases c3:neB (evalK K drTa (drEnv N v al n m) 0).2
     ·simp only[cF];cases c4:neB (evalK K drA (drEnv N v al n m) 0).2
      ·simp only[cF];have r:=drRunA2 K N v al n m;generalize drV K drA (drEnv N v al n m)=V at r ⊢;exact calls_of_val goodG hO0 80 r (obsK_c c4 (obsK_c hu (obsK_c c3 (obsK_c c1 hq0)))) rfl (pvT V 0) w
      ·simp only[cT];exact calls_of_val goodG hO0 80 (drRunA1 K N v al n m) (obsK_c c4 (obsK_c hu (obsK_c c3 (obsK_c c1 hq0)))) rfl rfl w
     ·simp only[cT];exact calls_of_val goodG hO0 80 (drRunA0 K N v al n m) (obsK_c (by rw[neB_d,c3];rfl) (obsK_c c3 (obsK_c c1 hq0))) rfl rfl w
  ·cases h
 ·cases h
def vdR:V3->I->Int->Int->V3×Int:=vdG KkR (KqR atR)
theorem drG:PlainOk prog 182 (kVd vdR (drO (KqR atR))):=drG_of KkR (KqR atR) oracleDR
def OMI(r:I->Bool)(fs fm fa:Bool->F->F->F×Int):OracleF:=lookO [(67,plainO (kBI r)),(98,plainO (kTwo fs)),(81,plainO (kTwo fm)),(102,plainO (kTwo fa))]
theorem irtK2:PlainOk prog 67 (kBI rt):=irightG
theorem oracleMI:OracleOk prog (OMI rt dSub dMul dAdd):= .cons irtK2.of (.cons (two_ok sub_F_w).of (.cons (two_ok mul_F_w).of (.cons (two_ok add_F_w).of (.nil _))))
def noMid:SV:= .tup [.agg [.fl F.zero,.fl F.zero,.fl F.zero],.i .i64 20]
theorem miRun0(r:I->Bool)(fs fm fa:Bool->F->F->F×Int)(a b c d e f:F):valR ((run prog EG (OMI r fs fm fa) 80).1 112 [.agg [.fl a,.fl b,.fl c,.fl d,.fl e,.fl f]] [] (some [false]))=some (noMid,some [],[(r ⟨a,b⟩,false)]):=by kernel_rfl
theorem miRun1(r:I->Bool)(fs fm fa:Bool->F->F->F×Int)(a b c d e f:F):valR ((run prog EG (OMI r fs fm fa) 80).1 112 [.agg [.fl a,.fl b,.fl c,.fl d,.fl e,.fl f]] [] (some [true,false]))=some (noMid,some [],[(r ⟨c,d⟩,false),(r ⟨a,b⟩,true)]):=by kernel_rfl
theorem miRun2(r:I->Bool)(fs fm fa:Bool->F->F->F×Int)(a b c d e f:F):valR ((run prog EG (OMI r fs fm fa) 80).1 112 [.agg [.fl a,.fl b,.fl c,.fl d,.fl e,.fl f]] [] (some [true,true,false]))=some (noMid,some [],[(r ⟨e,f⟩,false),(r ⟨c,d⟩,true),(r ⟨a,b⟩,true)]):=by kernel_rfl
def m1(fs:Bool->F->F->F×Int)(a b:F):F×Int:=fs false b a
def m2(fs fm:Bool->F->F->F×Int)(a b:F):F×Int:=fm false q2 (m1 fs a b).1
def m3(fs fm fa:Bool->F->F->F×Int)(a b:F):F×Int:=fa false a (m2 fs fm a b).1
def obM(fs fm fa:Bool->F->F->F×Int)(a b:F):Obs:=[(decide ((m3 fs fm fa a b).2=0),true),(decide ((m2 fs fm a b).2=0),true),(decide ((m1 fs a b).2=0),true)]
theorem miRun3(r:I->Bool)(fs fm fa:Bool->F->F->F×Int)(a b c d e f:F):valR ((run prog EG (OMI r fs fm fa) 80).1 112 [.agg [.fl a,.fl b,.fl c,.fl d,.fl e,.fl f]] [] (some [true,true,true,true,true,true,true,true,true,true,true,false]))=
  some (.tup [.agg [.fl (m3 fs fm fa a b).1,.fl (m3 fs fm fa c d).1,.fl (m3 fs fm fa e f).1],.i .i64 0],some [],
   [(!((m3 fs fm fa e f).2==0),false),(decide ((m2 fs fm e f).2=0),true),(decide ((m1 fs e f).2=0),true)]++obM fs fm fa c d++obM fs fm fa a b++ [(r ⟨e,f⟩,true),(r ⟨c,d⟩,true),(r ⟨a,b⟩,true)]):=by kernel_rfl
theorem mid_no{a b:F}(h:rt ⟨a,b⟩=true):(m1 dSub a b).2=0/\(m2 dSub dMul a b).2=0/\(m3 dSub dMul dAdd a b).2=0/\a.q<=(m3 dSub dMul dAdd a b).1.q/\(m3 dSub dMul dAdd a b).1.q<=b.q:=by
 have hq:=q_le.2 (oTz h);simp only at hq;have k2:=consts.2.2.2.2.2.1;obtain⟨r1,e1,h1⟩:= @dSub_dn b a F.zero (by rw[q_zero];grind);have g1:0<=r1.q:=by rw[<-q_zero];exact h1.top F.zero (by rw[q_zero];grind)
 have p1:0<=q2.q*r1.q:=mN (by grind) g1;obtain⟨r2,e2,h2⟩:= @dMul_dn q2 r1 F.zero (by rw[q_zero];exact p1);have g2:0<=r2.q:=by rw[<-q_zero];exact h2.top F.zero (by rw[q_zero];exact p1)
 obtain⟨r3,e3,h3⟩:= @dAdd_dn a r2 a (by grind);have f1:m1 dSub a b=(r1,0):=e1;have f2:m2 dSub dMul a b=(r2,0):=by unfold m2;rw[f1];exact e2
 have f3:m3 dSub dMul dAdd a b=(r3,0):=by unfold m3;rw[f2];exact e3
 rw[f1,f2,f3];refine⟨rfl,rfl,rfl,h3.top a (by grind),?_⟩;have l1:=h1.le;have l2:=h2.le;have l3:=h3.le;have e:q2.q=1/2:=by grind
 rw[e]at l2;show r3.q<=b.q;grind
theorem midG:PlainOk prog 112 (kMid rt3 midM):=by
 intro args ds x ds' ob h ho;unfold kMid at h;split at h
 ·rename_i a b c d e f;simp only[mIz,pIz]at h;obtain⟨⟨r,ee,o⟩,h1,rfl,rfl,rfl⟩:=h;have hd:r=rt3 a b c d e f:=takeB_ok h1 ho;refine⟨[.agg #[.float .f64 a.b,.float .f64 b.b,.float .f64 c.b,.float .f64 d.b,.float .f64 e.b,.float .f64 f.b]],?_⟩;unfold rt3 at hd;cases g1:rt ⟨a,b⟩
  ·rw[g1,Bool.false_and]at hd;subst hd;exact⟨_,rfl,rfl,fun w=>calls_of_val goodG oracleMI 80 (miRun0 rt dSub dMul dAdd a b c d e f) (ObsOk.of_B (obsB_yes g1 obsB_nil)) rfl rfl w⟩
  ·cases g2:rt ⟨c,d⟩
   ·rw[g1,g2,Bool.false_and,Bool.and_false]at hd;subst hd;exact⟨_,rfl,rfl,fun w=>calls_of_val goodG oracleMI 80 (miRun1 rt dSub dMul dAdd a b c d e f) (ObsOk.of_B (obsB_yes g2 (obsB_yes g1 obsB_nil))) rfl rfl w⟩
   ·cases g3:rt ⟨e,f⟩
    ·rw[g1,g2,g3,Bool.true_and,Bool.true_and]at hd;subst hd;exact⟨_,rfl,rfl,fun w=>calls_of_val goodG oracleMI 80 (miRun2 rt dSub dMul dAdd a b c d e f) (ObsOk.of_B (obsB_yes g3 (obsB_yes g2 (obsB_yes g1 obsB_nil)))) rfl rfl w⟩
    ·rw[g1,g2,g3,Bool.true_and,Bool.true_and]at hd;subst hd;obtain⟨a1,a2,a3,_⟩:=mid_no g1;obtain⟨b1,b2,b3,_⟩:=mid_no g2;obtain⟨c1,c2,c3,_⟩:=mid_no g3;refine⟨_,rfl,rfl,fun w=>calls_of_val goodG oracleMI 80 (miRun3 rt dSub dMul dAdd a b c d e f) (ObsOk.of_B ?_) rfl rfl w⟩;have y:∀{n:Int},n=0->decide (n=0)=true:=fun h=>dT h;exact obsB_yes (by rw[c3];rfl) (obsB_yes (y c2) (obsB_yes (y c1) (obsB_yes (y b3) (obsB_yes (y b2) (obsB_yes (y b1) (obsB_yes (y a3) (obsB_yes (y a2) (obsB_yes (y a1) (obsB_yes g3 (obsB_yes g2 (obsB_yes g1 obsB_nil)))))))))))
 ·cases h
end Go.Proofs.YtejcekikbnlllaaGreat
namespace Bu
open Rx Go
def reP:List Op:=[.num (two64),.mul 6 3,.mul 6 3,.add 1 0,.mul 7 4,.add 1 0,.mul 5 0,.mul 0 9,.mul 1 9,.mul 2 9,.sub 2 15,.sub 2 15,.sub 2 15,.kept mone64 one64 2,.kept mone64 one64 2,.kept mone64 one64 2]
def reE(K:Kk)(v w:V3):List I×Int:=evalK K reP [w.z,w.y,w.x,v.z,v.y,v.x] 0
def reR(K:Kk)(v w:V3):V3×Int:=bif neB (reE K v w).2 then(V3.zero,(reE K v w).2)else(⟨gt (reE K v w).1 2,gt (reE K v w).1 1,gt (reE K v w).1 0⟩,0)
def in1O(a:I):Obs:=[(decide (a.hi.k<=one64.k),true),(decide (mone64.k<=a.lo.k),true),(rt a,true)]
def reO(v w:V3):Obs:=in1O w.z++(in1O w.y++(in1O w.x++(in1O v.z++(in1O v.y++in1O v.x))))
def kRe(f:V3->V3->V3×Int):List SV->Dec->Option (SV×Dec×Obs)
 | [.agg [.fl a, .fl b, .fl c, .fl d, .fl e, .fl f'], .agg [.fl a2, .fl b2, .fl c2, .fl d2, .fl e2, .fl f2]], ds =>
   some (.tup [(f ⟨⟨a,b⟩,⟨c,d⟩,⟨e,f'⟩⟩ ⟨⟨a2,b2⟩,⟨c2,d2⟩,⟨e2,f2⟩⟩).1.sv,.si .i64 (f ⟨⟨a,b⟩,⟨c,d⟩,⟨e,f'⟩⟩ ⟨⟨a2,b2⟩,⟨c2,d2⟩,⟨e2,f2⟩⟩).2],ds,reO ⟨⟨a,b⟩,⟨c,d⟩,⟨e,f'⟩⟩ ⟨⟨a2,b2⟩,⟨c2,d2⟩,⟨e2,f2⟩⟩)
 |_,_=>none
def ngF(x:F):F:=toF ((Ieee.double.sub (toF 0).b x.b).getD 0)
def kpF(x:F):F:=toF ((Ieee.double.add x.b (toF 0).b).getD 0)
def ngO(x:F):Obs:=[((Ieee.double.sub (toF 0).b x.b).isSome,true),(rightB ((Ieee.double.sub (toF 0).b x.b).getD 0),true)]
def kpO(x:F):Obs:=[((Ieee.double.add x.b (toF 0).b).isSome,true),(rightB ((Ieee.double.add x.b (toF 0).b).getD 0),true)]
end Bu
namespace Go.Proofs.YtejcekikbnlllaaGreat
open Go.RowKit Bu Rx
theorem ngF_eq(x:F):ngF x=x.neg:=by unfold ngF;rw[toF0,sub_zero_F,Option.getD_some,toF_F]
theorem kpF_eq(x:F):kpF x=x:=by unfold kpF;rw[add_zero_F,Option.getD_some,toF_F]
theorem ngO_ok(x:F):ObsOk (ngO x):=by unfold ngO;rw[toF0,sub_zero_F];exact ob_c rfl (ob_c (right_F _) ob_n)
theorem kpO_ok(x:F):ObsOk (kpO x):=by unfold kpO;rw[add_zero_F];exact ob_c rfl (ob_c (right_F _) ob_n)
def t18:List Bool:=List.replicate 18 true
theorem reRun0(K:Kk)(v w:V3):valR ((run prog EG (lookO (OCL K)) 80).1 183 [v.sv,w.sv] [] (some (t18++ [false])))=some (.tup [V3.sv ⟨gt (reE K v w).1 2,gt (reE K v w).1 1,gt (reE K v w).1 0⟩,.i .i64 0],some [],(neB (reE K v w).2,false)::reO v w):=by kernel_rfl
theorem reRun1(K:Kk)(v w:V3):valR ((run prog EG (lookO (OCL K)) 80).1 183 [v.sv,w.sv] [] (some (t18++ [true])))=some (.tup [V3.zero.sv,.si .i64 (reE K v w).2],some [],(neB (reE K v w).2,true)::reO v w):=by kernel_rfl
def OSt(un:F->F->F->V3)(ub:F->F->F->Bool):OracleF:=lookO [(17,plainO (kUn un ub))]
theorem stRun(un:F->F->F->V3)(ub:F->F->F->Bool)(x y z:F):valR ((run prog EG (OSt un ub) 80).1 110 [.agg [.fl x,.fl y,.fl z]] [] (some [true]))=some (.tup [.agg [.fl (ngF x),.fl (ngF y),.fl (kpF z)],.i .i64 0],some [],kpO z++(ngO y++(ngO x++ [(ub x y z,true)]))):=by kernel_rfl
theorem reG_of(K:Kk)(hO:OracleOk prog (lookO (OCL K))):PlainOk prog 183 (kRe (reR K)):=by
 intro args ds x ds' ob h ho;unfold kRe at h;split at h
 ·rename_i x1 x2 y1 y2 z1 z2 u1 u2 v1 v2 w1 w2;simp only[sIz,pIz]at h;obtain⟨rfl,_,rfl⟩:=h;generalize hv:(⟨⟨x1,x2⟩,⟨y1,y2⟩,⟨z1,z2⟩⟩:V3)=v at*;generalize hw:(⟨⟨u1,u2⟩,⟨v1,v2⟩,⟨w1,w2⟩⟩:V3)=u at*;have e1:(.agg [.fl x1,.fl x2,.fl y1,.fl y2,.fl z1,.fl z2]:SV)=v.sv:=by subst hv;rfl
  have e2:(.agg [.fl u1,.fl u2,.fl v1,.fl v2,.fl w1,.fl w2]:SV)=u.sv:=by subst hw;rfl
  rw[e1,e2];have hargs:plains [v.sv,u.sv]=some [.agg #[.float .f64 v.x.lo.b,.float .f64 v.x.hi.b,.float .f64 v.y.lo.b,.float .f64 v.y.hi.b,.float .f64 v.z.lo.b,.float .f64 v.z.hi.b],.agg #[.float .f64 u.x.lo.b,.float .f64 u.x.hi.b,.float .f64 u.y.lo.b,.float .f64 u.y.hi.b,.float .f64 u.z.lo.b,.float .f64 u.z.hi.b]]:=rfl;unfold reR;cases k:neB (reE K v u).2
  ·refine⟨_,_,hargs,rfl,fun w=> ?_⟩;exact calls_of_val goodG hO 80 (reRun0 K v u) (fun q hq=>by
    rcases List.mem_cons.1 hq with rfl|hq
    ·exact k
    ·exact ho q hq) hargs rfl w
  ·refine⟨_,_,hargs,rfl,fun w=> ?_⟩;exact calls_of_val goodG hO 80 (reRun1 K v u) (fun q hq=>by
    rcases List.mem_cons.1 hq with rfl|hq
    ·exact k
    ·exact ho q hq) hargs rfl w
 ·cases h
theorem reG:PlainOk prog 183 (kRe (reR KkR)):=reG_of KkR oracleCL
def kSt(ub:F->F->F->Bool):List SV->Dec->Option (SV×Dec×Obs)
 | [.agg [.fl x,.fl y,.fl z]],ds=>some (.tup [.agg [.fl x.neg,.fl y.neg,.fl z],.i .i64 0],ds,[(ub x y z,true)])
 |_,_=>none
theorem stG:PlainOk prog 110 (kSt unB):=by
 intro args ds x ds' ob h ho;unfold kSt at h;split at h
 ·rename_i x y z;simp only[sIz,pIz]at h;obtain⟨rfl,_,rfl⟩:=h;refine⟨[.agg #[.float .f64 x.b,.float .f64 y.b,.float .f64 z.b]],_,rfl,rfl,fun w=> ?_⟩;have hr:=stRun (unV KkR) unB x y z;rw[ngF_eq,ngF_eq,kpF_eq]at hr;exact calls_of_val goodG (.cons unG.of (.nil _)) 80 hr (ob_a (kpO_ok z) (ob_a (ngO_ok y) (ob_a (ngO_ok x) ho))) rfl rfl w
 ·cases h
def kUnN(f:F->F->F->V3)(p:F->F->F->Bool):List SV->Dec->Option (SV×Dec×Obs)
 | [.agg [.fl x,.fl y,.fl z]],ds=>some (.tup [V3.sv (bif p x y z then f x y z else V3.zero),.si .i64 (bif p x y z then 0 else 50)],ds,[])
 |_,_=>none
theorem unNG:PlainOk prog 17 (kUnN (unV KkR) unB):=by
 intro args ds r ds' ob h ho;unfold kUnN at h;split at h
 ·rename_i a b c;simp only[sIz,pIz]at h;obtain⟨rfl,_,rfl⟩:=h;obtain⟨vs,v,h1,h2,h3⟩:=unG [.agg [.fl a,.fl b,.fl c]] none _ _ _ rfl ob_n;refine⟨vs,v,h1,?_,h3⟩;rw[<-h2];cases unB a b c<;>rfl
 ·cases h
def OEe(E:Nev)(un:F->F->F->V3)(ub:F->F->F->Bool):OracleF:=lookO [(50,kRd 19 (kRgt E.o)),(17,plainO (kUn un ub)),(77,kRd 19 (kEv_ E))]
def ODe(D:Nce)(un:F->F->F->V3)(ub:F->F->F->Bool):OracleF:=lookO [(50,kRd 19 (kRgt D.o)),(17,plainO (kUn un ub)),(78,kRd 19 (kCe D))]
def zzO(ub:F->F->F->Bool)(x y z r s t:F):Obs:=[(decide (t.k<=(toF 0).k),false),(decide (z.k<=(toF 0).k),false),(ub r s t,true),(ub x y z,true)]
def eeO(E:Nev)(un:F->F->F->V3)(ub:F->F->F->Bool)(cs:List SV)(len:Nat)(x y z r s t:F):Obs:=
 ((decide (cs.length=len*19),true)::(E.o cs len,true)::(E.b (un x y z) (un r s t) cs len,true)::(vcO (un r s t)++vcO (un x y z)))++(zzO ub x y z r s t++ [(E.o cs len,true)])
def deO(D:Nce)(un:F->F->F->V3)(ub:F->F->F->Bool)(cs:List SV)(len:Nat)(x y z r s t:F):Obs:=
 ((decide (cs.length=len*19),true)::(D.o cs len,true)::(D.b (un r s t).z (un x y z) (un r s t) cs len,true)::(vcO (un r s t)++vcO (un x y z)))++(zzO ub x y z r s t++ [(D.o cs len,true)])
section
variable (E:Nev) (D:Nce) (un:F->F->F->V3) (ub:F->F->F->Bool) (e:TypeId) (cells:List SV) (off len cap:Nat) (x y z r s t:F)
theorem eeRun:((run prog EG (OEe E un ub) 60).1 25 [.ssl 0 off len cap,.agg [.fl x,.fl y,.fl z],.agg [.fl r,.fl s,.fl t]] [⟨e,cells,.num⟩] (some [true,true,false,false])).map (fun q=>(q.1,q.2.1.take 1,q.2.2))=
  some (.tup [.agg (ltC (E.g (un x y z) (un r s t) (cutC cells off len) len)),.si .i64 (E.e (un x y z) (un r s t) (cutC cells off len) len)],[⟨e,cells,.num⟩],some [],eeO E un ub (cutC cells off len) len x y z r s t):=by kernel_rfl
theorem deRun:((run prog EG (ODe D un ub) 60).1 26 [.ssl 0 off len cap,.agg [.fl x,.fl y,.fl z],.agg [.fl r,.fl s,.fl t]] [⟨e,cells,.num⟩] (some [true,true,false,false])).map (fun q=>(q.1,q.2.1.take 1,q.2.2))=
  some (.tup [(D.g (un r s t).z (un x y z) (un r s t) (cutC cells off len) len).sv,.si .i64 (D.e (un r s t).z (un x y z) (un r s t) (cutC cells off len) len)],[⟨e,cells,.num⟩],some [],deO D un ub (cutC cells off len) len x y z r s t):=by kernel_rfl
end
def kEe(E:Nev)(un:F->F->F->V3)(ub:F->F->F->Bool):RdF:=fun cs len l ds=>match l with
 | [.agg [.fl x,.fl y,.fl z],.agg [.fl r,.fl s,.fl t]]=>some (.tup [.agg (ltC (E.g (un x y z) (un r s t) cs len)),.si .i64 (E.e (un x y z) (un r s t) cs len)],ds,eeO E un ub cs len x y z r s t)
 |_=>none
def kDn2(D:Nce)(un:F->F->F->V3)(ub:F->F->F->Bool):RdF:=fun cs len l ds=>match l with
 | [.agg [.fl x,.fl y,.fl z],.agg [.fl r,.fl s,.fl t]]=>some (.tup [(D.g (un r s t).z (un x y z) (un r s t) cs len).sv,.si .i64 (D.e (un r s t).z (un x y z) (un r s t) cs len)],ds,deO D un ub cs len x y z r s t)
 |_=>none
theorem eeG{E:Nev}{un:F->F->F->V3}{ub:F->F->F->Bool}(hO:OracleOk prog (OEe E un ub))(hD:E.o=okPg):RdOk prog 25 (kEe E un ub):=by
 intro cs len l ds x ds' ob h ho;unfold kEe at h;split at h
 ·rename_i x y z r s t;simp only[sIz,pIz]at h;obtain⟨rfl,_,rfl⟩:=h;have h1:cs.length=len*19:=oTz (ho.left _ (List.mem_cons_self ..));have h2:E.o cs len=true:=ho.left _ (List.mem_cons_of_mem _ (List.mem_cons_self ..));obtain⟨vc,hc⟩:=(okPg_ok (hD▸h2)).pl;refine⟨vc,_,_,hc,rfl,ltE_plain _ _,fun w q off cap hw=> ?_⟩;refine rd_of_runT goodG hO 60 (l:=[.agg [.fl x,.fl y,.fl z],.agg [.fl r,.fl s,.fl t]]) hc rfl (ltE_plain _ _) (fun e cells off cap hca=> ?_) w q off cap hw;have hr:=eeRun E un ub e cells off len cap x y z r s t;rw[cut_at hca h1]at hr;exact⟨_,_,_,hr,ho⟩
 ·cases h
theorem deG{D:Nce}{un:F->F->F->V3}{ub:F->F->F->Bool}(hO:OracleOk prog (ODe D un ub))(hD:D.o=okPg):RdOk prog 26 (kDn2 D un ub):=by
 intro cs len l ds x ds' ob h ho;unfold kDn2 at h;split at h
 ·rename_i x y z r s t;simp only[sIz,pIz]at h;obtain⟨rfl,_,rfl⟩:=h;have h1:cs.length=len*19:=oTz (ho.left _ (List.mem_cons_self ..));have h2:D.o cs len=true:=ho.left _ (List.mem_cons_of_mem _ (List.mem_cons_self ..));obtain⟨vc,hc⟩:=(okPg_ok (hD▸h2)).pl;refine⟨vc,_,_,hc,rfl,chE_plain _ _,fun w q off cap hw=> ?_⟩;refine rd_of_runT goodG hO 60 (l:=[.agg [.fl x,.fl y,.fl z],.agg [.fl r,.fl s,.fl t]]) hc rfl (chE_plain _ _) (fun e cells off cap hca=> ?_) w q off cap hw;have hr:=deRun D un ub e cells off len cap x y z r s t;rw[cut_at hca h1]at hr;exact⟨_,_,_,hr,ho⟩
 ·cases h
theorem eeK:RdOk prog 25 (kEe EvR (unV KkR) unB):=eeG (.cons (show RdOk prog 50 (kRgt okPg)from rgtG).of (.cons unG.of (.cons evK_.of (.nil _)))) rfl
noncomputable def CeR:Nce:=ndE NdR
theorem deK:RdOk prog 26 (kDn2 CeR (unV KkR) unB):=deG (.cons (show RdOk prog 50 (kRgt okPg)from rgtG).of (.cons unG.of (.cons (chE oracleOD).of (.nil _)))) rfl
structure Nwg where
 K:Kk
 o:List SV->Nat->Bool
 un:F->F->F->V3
 ub:F->F->F->Bool
 E:Nev
 D:Nce
def OWg(W:Nwg):OracleF:=lookO ([(50,kRd 19 (kRgt W.o)),(17,plainO (kUnN W.un W.ub)),(110,plainO (kSt W.ub)),(25,kRd 19 (kEe W.E W.un W.ub)),(26,kRd 19 (kDn2 W.D W.un W.ub))]++OCL W.K)
structure R8 where
 a:Nat
 b:Nat
 c:Nat
 d:Nat
 e:Nat
 f:Nat
 n:Int
 s:Bool
def R8.l(r:R8):List SV:=[.f r.a,.f r.b,.f r.c,.f r.d,.f r.e,.f r.f,.si .i64 r.n,.b r.s]
noncomputable def wgRun(W:Nwg)(e:TypeId)(cells:List SV)(off len cap:Nat)(x y z:F)(k:Int)(a b c:F)(r:R8)(d:List Bool):=
 ((run prog EG (OWg W) 80).1 24 [.ssl 0 off len cap,.agg [.fl x,.fl y,.fl z],.agg ([.si .u8 k,.fl a,.fl b,.fl c]++r.l)] [⟨e,cells,.num⟩] (some d)).map (fun q=>(q.1,q.2.1.take 1,q.2.2))
def eqP(p q:F×F×F):Bool:=decide (p.1.k=q.1.k)&&(decide (p.2.1.k=q.2.1.k)&&(decide (p.2.2.k=q.2.2.k)&&true))
def zW:SV:= .agg [.fl (toF 0),.fl (toF 0),.fl (toF 0),.fl (toF 0),.fl (toF 0),.fl (toF 0)]
def zX:SV:= .agg [.fl (toF 0),.fl (toF 0),.fl (toF 0),.fl (toF 0)]
def wgE(W:Nwg)(x y z:F):Int:=bif W.ub x y z then 0 else 50
def wgV(W:Nwg)(x y z:F):V3:=bif W.ub x y z then W.un x y z else V3.zero
section
variable (W:Nwg) (cs:List SV) (len:Nat) (x y z:F) (k:Int) (a b c:F)
def wgH(W:Nwg)(cs:List SV)(len:Nat)(x y z:F):Obs:=(W.ub x y z,true)::(wgE W x y z != 0,false):: [(W.o cs len,true)]
def wgM1(W:Nwg)(cs:List SV)(len:Nat)(x y z:F)(k:Int):Obs:=(k==1,true)::(k==0,false)::wgH W cs len x y z
def wgM2(W:Nwg)(cs:List SV)(len:Nat)(x y z:F)(k:Int)(a b c:F):Obs:=(wgE W a b c==0,true)::wgM1 W cs len x y z k
def wgM3(W:Nwg)(cs:List SV)(len:Nat)(x y z:F)(k:Int)(a b c:F):Obs:=(eqP (a,b,c) (x.neg,y.neg,z),true)::wgM2 W cs len x y z k a b c
def wgM4(W:Nwg)(cs:List SV)(len:Nat)(x y z:F)(k:Int)(a b c:F):Obs:=(k==0,false)::(decide ((toF 0).k<z.k),true)::wgM3 W cs len x y z k a b c
def wgD1(W:Nwg)(cs:List SV)(len:Nat)(x y z:F)(k:Int):Obs:=(k==2,true)::(k==1,false)::(k==0,false)::wgH W cs len x y z
def wgD2(W:Nwg)(cs:List SV)(len:Nat)(x y z:F)(k:Int)(a b c:F):Obs:=(wgE W a b c==0,true)::wgD1 W cs len x y z k
def wgD3(W:Nwg)(cs:List SV)(len:Nat)(x y z:F)(k:Int)(a b c:F):Obs:=(decide ((toF 0).k<c.k),true)::wgD2 W cs len x y z k a b c
def wgD4(W:Nwg)(cs:List SV)(len:Nat)(x y z:F)(k:Int)(a b c:F):Obs:=(k==0,false)::(decide ((toF 0).k<z.k),true)::wgD3 W cs len x y z k a b c
def wgB(W:Nwg)(cs:List SV)(len:Nat)(x y z:F)(k:Int)(a b c:F):Bool->Obs
 |true=>wgM4 W cs len x y z k a b c
 |false=>wgD4 W cs len x y z k a b c
def wgDs:Bool->List Bool
 |true=>[false,false,true,true,true,true,false]
 |false=>[false,false,false,true,true,true,true,false]
def wgL(W:Nwg)(cs:List SV)(len:Nat)(x y z a b c:F):Nat->Ch:=W.E.g (W.un a b c) (W.un x y z) cs len
def wgEe(W:Nwg)(cs:List SV)(len:Nat)(x y z a b c:F):Int:=W.E.e (W.un a b c) (W.un x y z) cs len
def wgC(W:Nwg)(cs:List SV)(len:Nat)(x y z a b c:F):Ch:=W.D.g (W.un x y z).z (W.un a b c) (W.un x y z) cs len
def wgDe(W:Nwg)(cs:List SV)(len:Nat)(x y z a b c:F):Int:=W.D.e (W.un x y z).z (W.un a b c) (W.un x y z) cs len
def wgOe(W:Nwg)(cs:List SV)(len:Nat)(x y z:F)(k:Int)(a b c:F)(m:Bool):Obs:=eeO W.E W.un W.ub cs len a b c x y z++wgB W cs len x y z k a b c m
def wgOd(W:Nwg)(cs:List SV)(len:Nat)(x y z:F)(k:Int)(a b c:F)(m:Bool):Obs:=deO W.D W.un W.ub cs len a b c x y z++((wgEe W cs len x y z a b c != 0,false)::wgOe W cs len x y z k a b c m)
def wgCt(K:Kk)(l:Ch)(iz:I)(x:Ch):Bool->I×Int
 |true=>K.div 0 l.m x.m
 |false=>K.div (K.mul 0 l.p iz).2 (K.mul 0 l.p iz).1 x.p
def wgK(W:Nwg)(cs:List SV)(len:Nat)(x y z a b c:F)(m:Bool)(j:Nat):I×Int:=wgCt W.K (wgL W cs len x y z a b c j) (wgV W a b c).z (wgC W cs len x y z a b c) m
def wgOk(W:Nwg)(cs:List SV)(len:Nat)(x y z:F)(k:Int)(a b c:F)(m:Bool):Obs:=(k==1,m)::(wgDe W cs len x y z a b c != 0,false)::wgOd W cs len x y z k a b c m
def wgSv(w:Nat->I)(x:Ch)(e:SV):SV:= .tup [.agg [.fl (w 0).lo,.fl (w 0).hi,.fl (w 1).lo,.fl (w 1).hi,.fl (w 2).lo,.fl (w 2).hi],x.sv,e]
def wgZ(e:SV):SV:= .tup [zW,zX,e]
end
section
variable (W:Nwg) (e:TypeId) (cells:List SV) (off len cap:Nat) (x y z:F) (k:Int) (a b c:F) (r:R8)
theorem wgR_u:wgRun W e cells off len cap x y z k a b c r [true]=some (wgZ (.i .i64 50),[⟨e,cells,.num⟩],some [],(wgE W x y z != 0,true):: [(W.o (cutC cells off len) len,true)]):=by unfold wgRun;kernel_rfl
theorem wgR_fail:wgRun W e cells off len cap x y z k a b c r [false,true,true]=some (wgZ (.i .i64 0),[⟨e,cells,.num⟩],some [],(k==0,true)::(k==0,true)::wgH W (cutC cells off len) len x y z):=by unfold wgRun;kernel_rfl
theorem wgR_m1:wgRun W e cells off len cap x y z k a b c r [false,false,true,false]=some (wgZ (.i .i64 230),[⟨e,cells,.num⟩],some [],(wgE W a b c==0,false)::wgM1 W (cutC cells off len) len x y z k):=by unfold wgRun;kernel_rfl
theorem wgR_m2:wgRun W e cells off len cap x y z k a b c r [false,false,true,true,false]=some (wgZ (.i .i64 230),[⟨e,cells,.num⟩],some [],(eqP (a,b,c) (x.neg,y.neg,z),false)::wgM2 W (cutC cells off len) len x y z k a b c):=by unfold wgRun;kernel_rfl
theorem wgR_m3:wgRun W e cells off len cap x y z k a b c r [false,false,true,true,true,false]=some (wgZ (.i .i64 230),[⟨e,cells,.num⟩],some [],(decide ((toF 0).k<z.k),false)::wgM3 W (cutC cells off len) len x y z k a b c):=by unfold wgRun;kernel_rfl
theorem wgR_d1:wgRun W e cells off len cap x y z k a b c r [false,false,false,true,false]=some (wgZ (.i .i64 230),[⟨e,cells,.num⟩],some [],(wgE W a b c==0,false)::wgD1 W (cutC cells off len) len x y z k):=by unfold wgRun;kernel_rfl
theorem wgR_d2:wgRun W e cells off len cap x y z k a b c r [false,false,false,true,true,false]=some (wgZ (.i .i64 230),[⟨e,cells,.num⟩],some [],(decide ((toF 0).k<c.k),false)::wgD2 W (cutC cells off len) len x y z k a b c):=by unfold wgRun;kernel_rfl
theorem wgR_d3:wgRun W e cells off len cap x y z k a b c r [false,false,false,true,true,true,false]=some (wgZ (.i .i64 230),[⟨e,cells,.num⟩],some [],(decide ((toF 0).k<z.k),false)::wgD3 W (cutC cells off len) len x y z k a b c):=by unfold wgRun;kernel_rfl
theorem wgR_o:wgRun W e cells off len cap x y z k a b c r [false,false,false,false]=some (wgZ (.i .i64 230),[⟨e,cells,.num⟩],some [],(k==2,false)::(k==1,false)::(k==0,false)::wgH W (cutC cells off len) len x y z):=by unfold wgRun;kernel_rfl
theorem wgR_et:wgRun W e cells off len cap x y z k a b c r (wgDs true++ [true])=some (wgZ (.si .i64 (wgEe W (cutC cells off len) len x y z a b c)),[⟨e,cells,.num⟩],some [],(wgEe W (cutC cells off len) len x y z a b c != 0,true)::wgOe W (cutC cells off len) len x y z k a b c true):=by unfold wgRun;kernel_rfl
theorem wgR_ft:wgRun W e cells off len cap x y z k a b c r (wgDs true++ [false,true])=some (wgZ (.si .i64 (wgDe W (cutC cells off len) len x y z a b c)),[⟨e,cells,.num⟩],some [],(wgDe W (cutC cells off len) len x y z a b c != 0,true)::wgOd W (cutC cells off len) len x y z k a b c true):=by unfold wgRun;kernel_rfl
theorem wgR_k0t:wgRun W e cells off len cap x y z k a b c r (wgDs true++ [false,false,true,true])=some (wgZ (.si .i64 (wgK W (cutC cells off len) len x y z a b c true 0).2),[⟨e,cells,.num⟩],some [],((wgK W (cutC cells off len) len x y z a b c true 0).2 != 0,true)::wgOk W (cutC cells off len) len x y z k a b c true):=by unfold wgRun;kernel_rfl
theorem wgR_k1t:wgRun W e cells off len cap x y z k a b c r (wgDs true++ [false,false,true,false,true])=some (wgZ (.si .i64 (wgK W (cutC cells off len) len x y z a b c true 1).2),[⟨e,cells,.num⟩],some [],((wgK W (cutC cells off len) len x y z a b c true 1).2 != 0,true)::((wgK W (cutC cells off len) len x y z a b c true 0).2 != 0,false)::wgOk W (cutC cells off len) len x y z k a b c true):=by unfold wgRun;kernel_rfl
theorem wgR_k2t:wgRun W e cells off len cap x y z k a b c r (wgDs true++ [false,false,true,false,false,true])=some (wgZ (.si .i64 (wgK W (cutC cells off len) len x y z a b c true 2).2),[⟨e,cells,.num⟩],some [],((wgK W (cutC cells off len) len x y z a b c true 2).2 != 0,true)::((wgK W (cutC cells off len) len x y z a b c true 1).2 != 0,false)::((wgK W (cutC cells off len) len x y z a b c true 0).2 != 0,false)::wgOk W (cutC cells off len) len x y z k a b c true):=by unfold wgRun;kernel_rfl
theorem wgR_yt:wgRun W e cells off len cap x y z k a b c r (wgDs true++ [false,false,true,false,false,false])=some (wgSv (fun j=>(wgK W (cutC cells off len) len x y z a b c true j).1) (wgC W (cutC cells off len) len x y z a b c) (.i .i64 0),[⟨e,cells,.num⟩],some [],((wgK W (cutC cells off len) len x y z a b c true 2).2 != 0,false)::((wgK W (cutC cells off len) len x y z a b c true 1).2 != 0,false)::((wgK W (cutC cells off len) len x y z a b c true 0).2 != 0,false)::wgOk W (cutC cells off len) len x y z k a b c true):=by unfold wgRun;kernel_rfl
theorem wgR_ef:wgRun W e cells off len cap x y z k a b c r (wgDs false++ [true])=some (wgZ (.si .i64 (wgEe W (cutC cells off len) len x y z a b c)),[⟨e,cells,.num⟩],some [],(wgEe W (cutC cells off len) len x y z a b c != 0,true)::wgOe W (cutC cells off len) len x y z k a b c false):=by unfold wgRun;kernel_rfl
theorem wgR_ff:wgRun W e cells off len cap x y z k a b c r (wgDs false++ [false,true])=some (wgZ (.si .i64 (wgDe W (cutC cells off len) len x y z a b c)),[⟨e,cells,.num⟩],some [],(wgDe W (cutC cells off len) len x y z a b c != 0,true)::wgOd W (cutC cells off len) len x y z k a b c false):=by unfold wgRun;kernel_rfl
theorem wgR_k0f:wgRun W e cells off len cap x y z k a b c r (wgDs false++ [false,false,false,true])=some (wgZ (.si .i64 (wgK W (cutC cells off len) len x y z a b c false 0).2),[⟨e,cells,.num⟩],some [],((wgK W (cutC cells off len) len x y z a b c false 0).2 != 0,true)::wgOk W (cutC cells off len) len x y z k a b c false):=by unfold wgRun;kernel_rfl
theorem wgR_k1f:wgRun W e cells off len cap x y z k a b c r (wgDs false++ [false,false,false,false,true])=some (wgZ (.si .i64 (wgK W (cutC cells off len) len x y z a b c false 1).2),[⟨e,cells,.num⟩],some [],((wgK W (cutC cells off len) len x y z a b c false 1).2 != 0,true)::((wgK W (cutC cells off len) len x y z a b c false 0).2 != 0,false)::wgOk W (cutC cells off len) len x y z k a b c false):=by unfold wgRun;kernel_rfl
theorem wgR_k2f:wgRun W e cells off len cap x y z k a b c r (wgDs false++ [false,false,false,false,false,true])=some (wgZ (.si .i64 (wgK W (cutC cells off len) len x y z a b c false 2).2),[⟨e,cells,.num⟩],some [],((wgK W (cutC cells off len) len x y z a b c false 2).2 != 0,true)::((wgK W (cutC cells off len) len x y z a b c false 1).2 != 0,false)::((wgK W (cutC cells off len) len x y z a b c false 0).2 != 0,false)::wgOk W (cutC cells off len) len x y z k a b c false):=by unfold wgRun;kernel_rfl
theorem wgR_yf:wgRun W e cells off len cap x y z k a b c r (wgDs false++ [false,false,false,false,false,false])=some (wgSv (fun j=>(wgK W (cutC cells off len) len x y z a b c false j).1) (wgC W (cutC cells off len) len x y z a b c) (.i .i64 0),[⟨e,cells,.num⟩],some [],((wgK W (cutC cells off len) len x y z a b c false 2).2 != 0,false)::((wgK W (cutC cells off len) len x y z a b c false 1).2 != 0,false)::((wgK W (cutC cells off len) len x y z a b c false 0).2 != 0,false)::wgOk W (cutC cells off len) len x y z k a b c false):=by unfold wgRun;kernel_rfl
end
structure WgR where
 w:Nat->I
 x:Ch
 e:Int
def wgZr(e:Int):WgR:=⟨fun _=>⟨toF 0,toF 0⟩,zCh,e⟩
def wgSvR(r:WgR):SV:=wgSv r.w r.x (.si .i64 r.e)
def wgVal(r:WgR):Value:= .tuple #[.agg #[.float .f64 (r.w 0).lo.b,.float .f64 (r.w 0).hi.b,.float .f64 (r.w 1).lo.b,.float .f64 (r.w 1).hi.b,.float .f64 (r.w 2).lo.b,.float .f64 (r.w 2).hi.b],.agg #[.float .f64 r.x.p.lo.b,.float .f64 r.x.p.hi.b,.float .f64 r.x.m.lo.b,.float .f64 r.x.m.hi.b],.int .i64 r.e]
def wgIs(W:Nwg)(x y z:F)(k:Int)(a b c:F):Bool->Bool
 |true=>(k==1)&&((wgE W a b c==0)&&(eqP (a,b,c) (x.neg,y.neg,z)&&decide ((toF 0).k<z.k)))
 |false=>(k==2)&&((wgE W a b c==0)&&(decide ((toF 0).k<c.k)&&decide ((toF 0).k<z.k)))
def wgCo(W:Nwg)(cs:List SV)(len:Nat)(x y z a b c:F)(m:Bool):WgR:=
 bif decide ((wgK W cs len x y z a b c m 0).2=0)then bif decide ((wgK W cs len x y z a b c m 1).2=0)then bif decide ((wgK W cs len x y z a b c m 2).2=0)then⟨fun j=>(wgK W cs len x y z a b c m j).1,wgC W cs len x y z a b c,0⟩
  else wgZr (wgK W cs len x y z a b c m 2).2 else wgZr (wgK W cs len x y z a b c m 1).2 else wgZr (wgK W cs len x y z a b c m 0).2
def wgOkF(W:Nwg)(cs:List SV)(len:Nat)(x y z a b c:F)(m:Bool):WgR:=
 bif decide (wgEe W cs len x y z a b c=0)then bif decide (wgDe W cs len x y z a b c=0)then wgCo W cs len x y z a b c m else wgZr (wgDe W cs len x y z a b c)else wgZr (wgEe W cs len x y z a b c)
def wgF(W:Nwg)(cs:List SV)(len:Nat)(x y z:F)(k:Int)(a b c:F):WgR:=
 bif W.ub x y z then bif k==0 then wgZr 0 else bif wgIs W x y z k a b c true then wgOkF W cs len x y z a b c true else bif wgIs W x y z k a b c false then wgOkF W cs len x y z a b c false else wgZr 230 else wgZr 50
def wgOf(W:Nwg)(cs:List SV)(len:Nat)(x y z a b c:F):Obs:=eeO W.E W.un W.ub cs len a b c x y z++(bif decide (wgEe W cs len x y z a b c=0)then deO W.D W.un W.ub cs len a b c x y z else[])
def wgOb(W:Nwg)(cs:List SV)(len:Nat)(x y z:F)(k:Int)(a b c:F):Obs:=
 (decide (cs.length=len*19),true)::(W.o cs len,true)::(bif W.ub x y z&&((!(k==0))&&(wgIs W x y z k a b c true||wgIs W x y z k a b c false))then wgOf W cs len x y z a b c else[])
theorem ob_h2{c b:Bool}{o:Obs}(h:ObsOk ((c,b)::o)):c=b/\ObsOk o:=⟨h _ (List.mem_cons_self ..),fun p hp=>h p (List.mem_cons_of_mem _ hp)⟩
theorem ne0{e:Int}(h:e≠0):(e != 0)=true:=by simpa using h
section
variable {W:Nwg} (hO:OracleOk prog (OWg W)) (hD:W.o=okPg) {cs:List SV} {len:Nat} {x y z:F} {k:Int} {a b c:F} {r:R8}
include hO hD
set_option maxRecDepth 20000 in
theorem wg_all(h:ObsOk (wgOb W cs len x y z k a b c)){vs:List Value}(hvs:plains [.agg [.fl x,.fl y,.fl z],.agg ([.si .u8 k,.fl a,.fl b,.fl c]++r.l)]=some vs):∃vc,plains cs=some vc/\∀(w:World)(q off cap:Nat),RowAt w q off vc->Calls prog 24 (Value.slice (some ⟨q,off,none⟩) len cap::vs).toArray w fun e w'=>e= .returned (wgVal (wgF W cs len x y z k a b c))/\Below w.heap.size w w':=by
 unfold wgOb at h;obtain⟨h1,h⟩:=ob_h2 h;obtain⟨h2,h⟩:=ob_h2 h;have hl:cs.length=len*19:=oTz h1;obtain⟨vc,hc⟩:=(okPg_ok (hD▸h2)).pl;refine⟨vc,hc,fun w q off cap hw=> ?_⟩;have fin:∀{d:List Bool}{res:SV}(hx:plain res=some (wgVal (wgF W cs len x y z k a b c)))(hr:∀(e:TypeId)(cells:List SV)(off cap:Nat),CellsAt cells off cs->∃ob,wgRun W e cells off len cap x y z k a b c r d=some (res,[⟨e,cells,.num⟩],some [],ob)/\ObsOk ob),Calls prog 24 (Value.slice (some ⟨q,off,none⟩) len cap::vs).toArray w fun e w'=>e= .returned (wgVal (wgF W cs len x y z k a b c))/\Below w.heap.size w w':=by intro d res hx hr;refine rd_of_runT goodG hO 80 (l:=[.agg [.fl x,.fl y,.fl z],.agg ([.si .u8 k,.fl a,.fl b,.fl c]++r.l)]) hc hvs hx (fun e cells off cap hca=> ?_) w q off cap hw;obtain⟨ob,h3,h4⟩:=hr e cells off cap hca;exact⟨_,_,ob,h3,h4⟩
 generalize hR:wgF W cs len x y z k a b c=R at fin ⊢;unfold wgF at hR;cases g0:W.ub x y z
 ·rw[g0,cF]at hR;subst hR;exact fin (res:=wgZ (.i .i64 50)) rfl fun e cells off cap hca=>⟨_,by have hr:=wgR_u W e cells off len cap x y z k a b c r;rw[cut_at hca hl]at hr;exact hr,ob_c (by unfold wgE;rw[g0];rfl) (ob_c h2 ob_n)⟩
 rw[g0,cT]at hR;rw[g0,Bool.true_and]at h;have oH:ObsOk (wgH W cs len x y z):=ob_c g0 (ob_c (by unfold wgE;rw[g0];rfl) (ob_c h2 ob_n));cases gk:(k==0)
 ·rw[gk,cF]at hR;rw[gk,Bool.not_false,Bool.true_and]at h;have ok:∀m:Bool,ObsOk (wgOf W cs len x y z a b c)->ObsOk (wgB W cs len x y z k a b c m)->(k==1)=m->wgOkF W cs len x y z a b c m=R->Calls prog 24 (Value.slice (some ⟨q,off,none⟩) len cap::vs).toArray w fun e w'=>e= .returned (wgVal R)/\Below w.heap.size w w':=by
   intro m hf hb hm hR;have hE:=hf.left;have hDn:=hf.right;have oe:ObsOk (wgOe W cs len x y z k a b c m):=ob_a hE hb;unfold wgOkF at hR;by_cases e1:wgEe W cs len x y z a b c=0
   ·rw[dT e1,cT]at hR hDn;have od:ObsOk (wgOd W cs len x y z k a b c m):=ob_a hDn (ob_c (ne_0 e1) oe);by_cases e2:wgDe W cs len x y z a b c=0
    ·rw[dT e2,cT]at hR;have o3:ObsOk (wgOk W cs len x y z k a b c m):=ob_c hm (ob_c (ne_0 e2) od);unfold wgCo at hR;by_cases c0:(wgK W cs len x y z a b c m 0).2=0
     ·rw[dT c0,cT]at hR;by_cases c1:(wgK W cs len x y z a b c m 1).2=0
      ·rw[dT c1,cT]at hR;by_cases c2:(wgK W cs len x y z a b c m 2).2=0
       ·rw[dT c2,cT]at hR;subst hR;cases m
        ·exact fin (res:=wgSv (fun j=>(wgK W cs len x y z a b c false j).1) (wgC W cs len x y z a b c) (.i .i64 0)) rfl fun e cells off cap hca=>⟨_,by have hr:=wgR_yf W e cells off len cap x y z k a b c r;rw[cut_at hca hl]at hr;exact hr,ob_c (ne_0 c2) (ob_c (ne_0 c1) (ob_c (ne_0 c0) o3))⟩
        ·exact fin (res:=wgSv (fun j=>(wgK W cs len x y z a b c true j).1) (wgC W cs len x y z a b c) (.i .i64 0)) rfl fun e cells off cap hca=>⟨_,by have hr:=wgR_yt W e cells off len cap x y z k a b c r;rw[cut_at hca hl]at hr;exact hr,ob_c (ne_0 c2) (ob_c (ne_0 c1) (ob_c (ne_0 c0) o3))⟩
       ·rw[dF c2,cF]at hR;subst hR;cases m
        ·exact fin (res:=wgZ (.si .i64 (wgK W cs len x y z a b c false 2).2)) rfl fun e cells off cap hca=>⟨_,by have hr:=wgR_k2f W e cells off len cap x y z k a b c r;rw[cut_at hca hl]at hr;exact hr,ob_c (ne0 c2) (ob_c (ne_0 c1) (ob_c (ne_0 c0) o3))⟩
        ·exact fin (res:=wgZ (.si .i64 (wgK W cs len x y z a b c true 2).2)) rfl fun e cells off cap hca=>⟨_,by have hr:=wgR_k2t W e cells off len cap x y z k a b c r;rw[cut_at hca hl]at hr;exact hr,ob_c (ne0 c2) (ob_c (ne_0 c1) (ob_c (ne_0 c0) o3))⟩
      ·rw[dF c1,cF]at hR;subst hR;cases m
       ·exact fin (res:=wgZ (.si .i64 (wgK W cs len x y z a b c false 1).2)) rfl fun e cells off cap hca=>⟨_,by have hr:=wgR_k1f W e cells off len cap x y z k a b c r;rw[cut_at hca hl]at hr;exact hr,ob_c (ne0 c1) (ob_c (ne_0 c0) o3)⟩
       ·exact fin (res:=wgZ (.si .i64 (wgK W cs len x y z a b c true 1).2)) rfl fun e cells off cap hca=>⟨_,by have hr:=wgR_k1t W e cells off len cap x y z k a b c r;rw[cut_at hca hl]at hr;exact hr,ob_c (ne0 c1) (ob_c (ne_0 c0) o3)⟩
     ·rw[dF c0,cF]at hR;subst hR;cases m
      ·exact fin (res:=wgZ (.si .i64 (wgK W cs len x y z a b c false 0).2)) rfl fun e cells off cap hca=>⟨_,by have hr:=wgR_k0f W e cells off len cap x y z k a b c r;rw[cut_at hca hl]at hr;exact hr,ob_c (ne0 c0) o3⟩
      ·exact fin (res:=wgZ (.si .i64 (wgK W cs len x y z a b c true 0).2)) rfl fun e cells off cap hca=>⟨_,by have hr:=wgR_k0t W e cells off len cap x y z k a b c r;rw[cut_at hca hl]at hr;exact hr,ob_c (ne0 c0) o3⟩
    ·rw[dF e2,cF]at hR;subst hR;cases m
     ·exact fin (res:=wgZ (.si .i64 (wgDe W cs len x y z a b c))) rfl fun e cells off cap hca=>⟨_,by have hr:=wgR_ff W e cells off len cap x y z k a b c r;rw[cut_at hca hl]at hr;exact hr,ob_c (ne0 e2) od⟩
     ·exact fin (res:=wgZ (.si .i64 (wgDe W cs len x y z a b c))) rfl fun e cells off cap hca=>⟨_,by have hr:=wgR_ft W e cells off len cap x y z k a b c r;rw[cut_at hca hl]at hr;exact hr,ob_c (ne0 e2) od⟩
   ·rw[dF e1,cF]at hR;subst hR;cases m
    ·exact fin (res:=wgZ (.si .i64 (wgEe W cs len x y z a b c))) rfl fun e cells off cap hca=>⟨_,by have hr:=wgR_ef W e cells off len cap x y z k a b c r;rw[cut_at hca hl]at hr;exact hr,ob_c (ne0 e1) oe⟩
    ·exact fin (res:=wgZ (.si .i64 (wgEe W cs len x y z a b c))) rfl fun e cells off cap hca=>⟨_,by have hr:=wgR_et W e cells off len cap x y z k a b c r;rw[cut_at hca hl]at hr;exact hr,ob_c (ne0 e1) oe⟩
  cases k1:(k==1)
  ·have im:wgIs W x y z k a b c true=false:=by unfold wgIs;rw[k1];rfl
   rw[im,cF]at hR;rw[im,Bool.false_or]at h;cases k2:(k==2)
   ·have id:wgIs W x y z k a b c false=false:=by unfold wgIs;rw[k2];rfl
    rw[id,cF]at hR;subst hR;exact fin (res:=wgZ (.i .i64 230)) rfl fun e cells off cap hca=>⟨_,by have hr:=wgR_o W e cells off len cap x y z k a b c r;rw[cut_at hca hl]at hr;exact hr,ob_c k2 (ob_c k1 (ob_c gk oH))⟩
   ·have od1:ObsOk (wgD1 W cs len x y z k):=ob_c k2 (ob_c k1 (ob_c gk oH));have eid:wgIs W x y z k a b c false=((wgE W a b c==0)&&(decide ((toF 0).k<c.k)&&decide ((toF 0).k<z.k))):=by unfold wgIs;rw[k2,Bool.true_and]
    rw[eid]at hR h;cases w1:(wgE W a b c==0)
    ·rw[w1,Bool.false_and,cF]at hR;subst hR;exact fin (res:=wgZ (.i .i64 230)) rfl fun e cells off cap hca=>⟨_,by have hr:=wgR_d1 W e cells off len cap x y z k a b c r;rw[cut_at hca hl]at hr;exact hr,ob_c w1 od1⟩
    ·rw[w1,Bool.true_and]at hR h;have od2:ObsOk (wgD2 W cs len x y z k a b c):=ob_c w1 od1;cases w2:decide ((toF 0).k<c.k)
     ·rw[w2,Bool.false_and,cF]at hR;subst hR;exact fin (res:=wgZ (.i .i64 230)) rfl fun e cells off cap hca=>⟨_,by have hr:=wgR_d2 W e cells off len cap x y z k a b c r;rw[cut_at hca hl]at hr;exact hr,ob_c w2 od2⟩
     ·rw[w2,Bool.true_and]at hR h;have od3:ObsOk (wgD3 W cs len x y z k a b c):=ob_c w2 od2;cases w3:decide ((toF 0).k<z.k)
      ·rw[w3,cF]at hR;subst hR;exact fin (res:=wgZ (.i .i64 230)) rfl fun e cells off cap hca=>⟨_,by have hr:=wgR_d3 W e cells off len cap x y z k a b c r;rw[cut_at hca hl]at hr;exact hr,ob_c w3 od3⟩
      ·rw[w3,cT]at hR h;exact ok false h (ob_c gk (ob_c w3 od3)) k1 hR
  ·have od1:ObsOk (wgM1 W cs len x y z k):=ob_c k1 (ob_c gk oH);have kk:k=1:=by simpa using k1
   have id:wgIs W x y z k a b c false=false:=by unfold wgIs;rw[kk];rfl
   have eim:wgIs W x y z k a b c true=((wgE W a b c==0)&&(eqP (a,b,c) (x.neg,y.neg,z)&&decide ((toF 0).k<z.k))):=by unfold wgIs;rw[k1,Bool.true_and]
   rw[eim,id]at hR h;rw[Bool.or_false]at h;cases w1:(wgE W a b c==0)
   ·rw[w1,Bool.false_and,cF,cF]at hR;subst hR;exact fin (res:=wgZ (.i .i64 230)) rfl fun e cells off cap hca=>⟨_,by have hr:=wgR_m1 W e cells off len cap x y z k a b c r;rw[cut_at hca hl]at hr;exact hr,ob_c w1 od1⟩
   ·rw[w1,Bool.true_and]at hR h;have od2:ObsOk (wgM2 W cs len x y z k a b c):=ob_c w1 od1;cases w2:eqP (a,b,c) (x.neg,y.neg,z)
    ·rw[w2,Bool.false_and,cF,cF]at hR;subst hR;exact fin (res:=wgZ (.i .i64 230)) rfl fun e cells off cap hca=>⟨_,by have hr:=wgR_m2 W e cells off len cap x y z k a b c r;rw[cut_at hca hl]at hr;exact hr,ob_c w2 od2⟩
    ·rw[w2,Bool.true_and]at hR h;have od3:ObsOk (wgM3 W cs len x y z k a b c):=ob_c w2 od2;cases w3:decide ((toF 0).k<z.k)
     ·rw[w3,cF,cF]at hR;subst hR;exact fin (res:=wgZ (.i .i64 230)) rfl fun e cells off cap hca=>⟨_,by have hr:=wgR_m3 W e cells off len cap x y z k a b c r;rw[cut_at hca hl]at hr;exact hr,ob_c w3 od3⟩
     ·rw[w3,cT]at hR h;exact ok true h (ob_c gk (ob_c w3 od3)) k1 hR
 ·rw[gk,cT]at hR;subst hR;exact fin (res:=wgZ (.i .i64 0)) rfl fun e cells off cap hca=>⟨_,by have hr:=wgR_fail W e cells off len cap x y z k a b c r;rw[cut_at hca hl]at hr;exact hr,ob_c gk (ob_c gk oH)⟩
end
end Go.Proofs.YtejcekikbnlllaaGreat
namespace Rx
open Go
theorem runDrawK_ok{P:Program}{E:ExtF}{call:CallF}{Q:Exit->Act->World->Prop}(hP:Good P E)(hcall:CallOk P call){ops:Array Oper}{k:Nat}{A:List Nat}{s s2:St}{crs:List CR}(hk:k<=ops.size)(hrec:runRec P E call ops (ops.toList.take k) s=some (s2,crs))(hA:okAnc A ops.toList 0=true)(hpairs:okPairs A ops s.T.length crs 0 []=true)
  (hall:∀j,k<=j->j<ops.size->∀i,i<k->(A.getD j 0).testBit i=true) (ho:ObsOk s2.ob) {m:Nms} {a:Act} {w:World} (hs:StAt m s a w) {id:Nat}
  (hq:∀m' a' w' fuel listed,listed.size=ops.size->(∀j,j<ops.size->listed.getD j false=decide (j<k))->ops.size<=fuel+k->StAt m' s2 a' w'->Goes m s.M w m' s2.M w'->wpAny P .any ops Q fuel listed a' w'):(Code.region id ops true).wp P Q a w:=by
   obtain⟨p1,_,p3⟩:=okPairs_ok hpairs;have hos:=runRec_os hrec;have hdst:∀o∈ops.toList.take k,∀d,o.dst=some d->d<s.T.length:=by intro o ho d hd;rw[<-hos]at ho;obtain⟨c,hc,rfl⟩:=List.mem_map.1 ho;obtain⟨i,hi⟩:=List.getElem?_of_mem hc;exact p1 i c hi d hd
   obtain⟨hlen,hTl,_,hfin,hcr⟩:=runRec_ok hrec hdst;have hlen':crs.length=k:=by rw[hlen,List.length_take];simp;omega
   have hex:∀i,i<k->∃c,crs[i]? =some c:=fun i hi=>⟨crs[i]'(by omega),by simp[hlen',hi]⟩;refine wp_region_any hP.mixed ?_;have getIn:∀(listed:Array Bool)(j:Nat),listed.getD j false=true->j<listed.size:=by
    intro listed j hj;rcases Nat.lt_or_ge j listed.size with h'|h'
    ·exact h'
    ·simp[Array.getElem?_eq_none h']at hj
   have done:∀(fuel:Nat)(listed:Array Bool)(m1:Nms)(a1:Act)(w1:World),listed.size=ops.size->(∀j,j<k->listed.getD j false=true)->(∀j,k<=j->listed.getD j false=false)->ops.size<=fuel+k->
     StoreAt [] m1 (FD crs (fun i=>listed.getD i false) (storeOf s)) s.T.length a1 w1->GoesL m (liveM s.M) w m1 (liveF (FD crs (fun i=>listed.getD i false) (storeOf s))) w1->wpAny P .any ops Q fuel listed a1 w1:=by
    intro fuel listed m1 a1 w1 hsz hp hlast hf hS hg;have hF:FD crs (fun i=>listed.getD i false) (storeOf s)=storeOf s2:=by
     rw[hfin];funext kk;refine FD_congr (fun i c hc _=> ?_) rfl;refine hp i ?_;rcases Nat.lt_or_ge i crs.length with h'|h'
     ·omega
     ·rw[List.getElem?_eq_none h']at hc;cases hc
    rw[hF,<-hTl]at hS;rw[hF,liveF_eq]at hg;refine hq m1 a1 w1 fuel listed hsz (fun j _=> ?_) hf hS.to hg;by_cases hj:j<k
    ·rw[hp j hj,dT hj]
    ·rw[hlast j (by omega),dF hj]
   have allIn:∀(listed:Array Bool),listed.size=ops.size->Region.ready .any ops listed=[]->∀j,j<ops.size->listed.getD j false=true:=by
    intro listed hsz hr j
    induction j using Nat.strongRecOn with
    | _ j ihj =>
      intro hj;cases hD:listed.getD j false with
      |true=>rfl
      | false =>
        exfalso
        have hmem:j∈Region.ready .any ops listed:=by
         refine mem_ready.2 ⟨?_,ops[j],by simp[hj],fun e he hb=> ?_⟩
         ·have:j<listed.size:=by omega
          simp[this]at hD ⊢;exact hD
         ·have h1:=okAnc_ok hA j ops[j] (by simp[hj]);rw[Nat.zero_add]at h1;have hlt:=h1.2 e he hb;exact ihj e.on hlt (by omega)
        rw[hr]at hmem;cases hmem
   have main:∀(fuel:Nat)(listed:Array Bool)(R:List Nat)(m1:Nms)(a1:Act)(w1:World),listed.size=ops.size->
     (∀(j:Nat)(o:Oper),ops[j]? =some o->listed.getD j false=true->∀e∈o.after,Region.binds .any e=true->listed.getD e.on false=true)->
     (∀j,j<k->listed.getD j false=true\/j∈R)->(∀j,k<=j->listed.getD j false=false)->R.length+(ops.size-k)<=fuel->
     StoreAt [] m1 (FD crs (fun i=>listed.getD i false) (storeOf s)) s.T.length a1 w1->GoesL m (liveM s.M) w m1 (liveF (FD crs (fun i=>listed.getD i false) (storeOf s))) w1->wpAny P .any ops Q fuel listed a1 w1:=by
    intro fuel
    induction fuel with
    | zero =>
      intro listed R m1 a1 w1 hsz hcl hrem hlast hR hS hg;have hR0:R=[]:=by cases R with|nil=>rfl|cons x l=>simp at hR
      exact done 0 listed m1 a1 w1 hsz (fun j hj=>(hrem j hj).resolve_right (by rw[hR0];simp)) hlast (by omega) hS hg
    | succ fuel ih =>
      intro listed R m1 a1 w1 hsz hcl hrem hlast hR hS hg;by_cases hp:∀j,j<k->listed.getD j false=true
      ·exact done (fuel+1) listed m1 a1 w1 hsz hp hlast (by omega) hS hg
      refine⟨fun hr=>absurd (fun j hj=>allIn listed hsz hr j (by omega)) hp,fun i hi=> ?_⟩;obtain⟨hun,o,hio,hpre⟩:=mem_ready.1 hi;have hlt:i<ops.size:=(Array.getElem?_eq_some_iff.1 hio).1;have hltl:i<listed.size:=by omega
      have hDi:listed.getD i false=false:=by simp[hltl]at hun ⊢;exact hun
      have hanc:=ancs_in (D:=fun i=>listed.getD i false) (listed:=listed) hA (fun _=>rfl) hsz hcl;have hik:i<k:=by
       rcases Nat.lt_or_ge i k with h'|h'
       ·exact h'
       ·exact absurd (fun j hj=>hanc i o hio hpre j (hall i h' hlt j hj)) hp
      obtain⟨c,hc⟩:=hex i hik;obtain⟨g1,g2,g3,s1,g4,g5,g6⟩:=hcr i c hc;have hco:ops[i]? =some c.o:=by
       rw[List.getElem?_take,if_pos hik]at g1
       simpa using g1
      have hoc:o=c.o:=by rw[hio]at hco;exact Option.some.inj hco
      subst hoc;have order:∀k,(k∈usesOf ops c\/k∈wKeys c)->∀(i':Nat)(c':CR),crs[i']? =some c'->k∈wKeys c'->i'≠i->listed.getD i' false=decide (i'<i):=by
       intro k hk i' c' hc' hk' hne;have hlt':i'<ops.size:=by
        rcases Nat.lt_or_ge i' crs.length with h'|h'
        ·omega
        ·rw[List.getElem?_eq_none h']at hc';cases hc'
       rcases Nat.lt_or_gt_of_ne hne with hl|hl
       ·rw[dT hl];rcases p3 i' i c' c hl hc' hc with h1|h1
        ·rw[Nat.zero_add,Nat.zero_add]at h1;exact hanc i _ hio hpre i' h1
        ·exact((h1 k).1 hk' hk).elim
       ·rw[dF (by omega)];cases hD':listed.getD i' false with
        |false=>rfl
        | true =>
          exfalso
          have hio':ops[i']? =some ops[i']:=by simp[hlt']
          rcases p3 i i' c c' hl hc hc' with h1|h1
          ·rw[Nat.zero_add,Nat.zero_add]at h1;have:=hanc i' _ hio' (hcl i' _ hio' hD') i h1;exact absurd (hDi.symm.trans this) (by decide)
          ·rcases hk with hk|hk
           ·exact(h1 k).2 hk hk'
           ·exact(h1 k).1 hk (.inr hk')
      have hag:∀k,k∈usesOf ops c\/k∈wKeys c->FD crs (fun i=>listed.getD i false) (storeOf s) k=storeOf c.s k:=by
       intro k hk;rw[g3];refine FD_congr (fun i' c' hc' hk'=> ?_) rfl;by_cases hne:i'=i
       ·subst hne;rw[hDi];simp
       ·exact order k hk i' c' hc' hk' hne
      have hds:∀d,c.o.dst=some d->d<s.T.length:=fun d hd=>p1 i c hc d hd;obtain⟨hs1,_⟩:=stepOp_store g4 (by rw[g2];exact hds);have hset:∀j,(listed.setIfInBounds i true).getD j false=if j=i then true else listed.getD j false:=by
       intro j;by_cases e:j=i
       ·subst e;simp[hltl]
       ·rw[if_neg e,getD_set_ne false (fun h=>e h.symm)]
      have hFD:FD crs (fun j=>(listed.setIfInBounds i true).getD j false) (storeOf s)=upd (writes c) (FD crs (fun i=>listed.getD i false) (storeOf s)):=by
       funext k;by_cases hk:k∈wKeys c
       ·have h1:k∈(writes c).map (·.1):=by rw[wKeys_eq];exact hk
        have h2:upd (writes c) (FD crs (fun i=>listed.getD i false) (storeOf s)) k=storeOf s1 k:=by rw[hs1];exact upd_same h1
        rw[h2,g5];refine FD_congr (fun i' c' hc' hk'=> ?_) rfl;rw[hset];by_cases hne:i'=i
        ·subst hne;simp
        ·rw[if_neg hne,order k (.inr hk) i' c' hc' hk' hne];by_cases hl:i'<i
         ·simp[hl,Nat.le_of_lt hl]
         ·have:¬i'<=i:=by omega
          simp[hl,this]
       ·have h1:k ∉ (writes c).map (·.1):=by rw[wKeys_eq];exact hk
        rw[upd_other h1];refine FD_congr (fun i' c' hc' hk'=> ?_) rfl;rw[hset];by_cases hne:i'=i
        ·subst hne;rw[hc]at hc';simp only[sIz]at hc';subst hc';exact absurd hk' hk
        ·rw[if_neg hne]
      have ho1:ObsOk s1.ob:=g6.ok ho;refine draw_step hP hcall hco g4 ho1 g2 hds hS hag fun m' a' w' hS' hg'=> ?_;rw[<-hFD]at hS' hg';refine ih (listed.setIfInBounds i true) (R.erase i) m' a' w' (by simpa using hsz) ?_ ?_ ?_ ?_ hS' (hg.trans hg')
      ·intro j oj hj hDj e he hb;rw[hset];by_cases e1:e.on=i
       ·rw[if_pos e1]
       ·rw[if_neg e1];rw[hset]at hDj;by_cases e2:j=i
        ·subst e2;rw[hio]at hj;simp only[sIz]at hj;subst hj;exact hpre e he hb
        ·rw[if_neg e2]at hDj;exact hcl j oj hj hDj e he hb
      ·intro j hj;rw[hset];by_cases e2:j=i
       ·left;rw[if_pos e2]
       ·rw[if_neg e2];rcases hrem j hj with h1|h1
        ·exact .inl h1
        ·exact .inr ((List.mem_erase_of_ne e2).2 h1)
      ·intro j hj;rw[hset,if_neg (by omega)];exact hlast j hj
      ·have hin:i∈R:=(hrem i hik).resolve_left (by rw[hDi];simp);have hR':=List.length_pos_of_mem hin;rw[List.length_erase_of_mem hin];omega
   have hnone:∀(crs:List CR)(D:Nat->Bool)(F:Nat->Option Val),(∀i,D i=false)->FD crs D F=F:=by
    intro crs
    induction crs with
    |nil=>intro D F _;rfl
    |cons c r ih=>intro D F hD;unfold FD;rw[hD 0];exact ih _ _ fun i=>hD (i+1)
   have hfalse:∀j,(Array.replicate ops.size false).getD j false=false:=by intro j;rcases Nat.lt_or_ge j ops.size with h'|h'<;>simp[h']
   have hs':StAt m s a {w with drawn:=w.drawn+1}:=⟨hs.tm,hs.df,⟨⟨hs.mem.ok.lt⟩,hs.mem.inj,fun n b hb=>let ⟨r,hr,hat⟩:=hs.mem.blk n b hb;⟨r,hr,hat.ext (Ext.refl m) hr rfl⟩,hs.mem.dom⟩⟩;refine main ops.size _ (List.range k) m a _ (by simp) ?_ ?_ (fun j _=>hfalse j) (by simp;omega) ?_ ?_
   ·intro j o _ hD;rw[hfalse]at hD;cases hD
   ·intro j hj;right;simpa using hj
   ·rw[hnone _ _ _ hfalse];exact StoreAt.of hs'
   ·rw[hnone _ _ _ hfalse,liveF_eq];exact⟨Ext.refl m,Fr.drew _ w,fun n r h=> .inl h,fun _ _ _ h=>h⟩
theorem run_bind_ok{α β:Type}{P:Program}{x:Sem α}{f:α->Sem β}{w w':World}{v:α}(h:x.run P w= .ok v w'):(x>>=f).run P w=(f v).run P w':=by rw[Sem.run_bind,h];rfl
theorem max2_any(P:Program)(x y:Nat)(w:World):∃b n,(Builtin.max2 (.float .f64 x) (.float .f64 y)).run P w= .ok (.float .f64 b) {w with drawn:=w.drawn+n}:=by
 unfold Builtin.max2;simp only[];cases FloatKind.f64.format.order x y with
 | none =>
   by_cases q:(Question.nanMinMax FloatKind.f64 true x y).forced=true
   ·exact⟨0,0,by simp only[choose,bind,pure,Sem.bind,Sem.run,q,if_true,Nat.add_zero]⟩
   ·exact⟨_,1,by simp only[choose,bind,pure,Sem.bind,Sem.run,q];rfl⟩
 |some o=>cases o<;>exact⟨_,0,rfl⟩
theorem max3_any(P:Program)(ts:Array TypeId)(t:TypeId)(x y z:Nat)(w:World):∃b n,(Builtin.max_ ts t #[.float .f64 x,.float .f64 y,.float .f64 z]).run P w= .ok (.float .f64 b) {w with drawn:=w.drawn+n}:=by obtain⟨b,n,h⟩:=max2_any P x y w;obtain⟨c,k,h'⟩:=max2_any P b z {w with drawn:=w.drawn+n};refine⟨c,n+k,?_⟩;show(([.float .f64 y,.float .f64 z]:List Value).foldlM Builtin.max2 (.float .f64 x)).run P w=_;simp only[List.foldlM];rw[run_bind_ok h,run_bind_ok h'];simp only[pure,Sem.run,Nat.add_assoc]
end Rx
namespace Go.Proofs.YtejcekikbnlllaaGreat
open Go.RowKit Bu Rx
def kAbsW:List SV->Dec->Option (SV×Dec×Obs)
 | [.f x],ds=>some (.f (x%9223372036854775808),ds,[(Nat.blt x 18446744073709551616,true)])
 |_,_=>none
theorem absWG:PlainOk prog 59 kAbsW:=by
 intro args ds x ds' ob h ho;unfold kAbsW at h;split at h
 ·rename_i x;simp only[sIz,pIz]at h;obtain⟨rfl,_,rfl⟩:=h;have hx:x<18446744073709551616:=by have h:=ho _ (List.mem_singleton.2 rfl);rw[Nat.blt_eq]at h;exact h
  exact⟨[.float .f64 x],_,rfl,rfl,fun w=>(abs_w x w hx).mono fun e w' ⟨h1,h2⟩=>⟨h1,h2▸Below.refl _ _⟩⟩
 ·cases h
def OUw:OracleF:=lookO [(59,plainO kAbsW),(60,plainO oRight)]
theorem oracleUw:OracleOk prog OUw:= .cons absWG.of (.cons rightG.of (.nil _))
noncomputable def uwC:Code:=bodyOf prog 17
theorem uwBody:Tryz.f17.body=some uwC:=by kernel_rfl
def opsOf:Code->Array Oper| .region _ o _=>o|_=> #[]
def idOf:Code->Nat| .region i _ _=>i|_=>0
noncomputable def uwR0:Code:=seqL uwC
noncomputable def uwR1:Code:=seqL (seqR uwC)
noncomputable def uwTl:Code:=seqR (seqR uwC)
noncomputable def uwOps:Array Oper:=opsOf uwR1
theorem uwCut:uwC= .seq uwR0 (.seq (.region (idOf uwR1) uwOps true) uwTl):=by kernel_rfl
noncomputable def uwS(x y z:Nat)(d:Dec):St:=⟨[.agg [.f x,.f y,.f z]]++List.replicate (Tryz.f17.ntmps-1) (.tup []),[],d,[]⟩
noncomputable abbrev uw0(x y z:Nat):St:=aft prog EG OUw 60 uwR0 (uwS x y z none)
theorem uwL0(x y z:Nat):Lands prog EG OUw 60 uwR0 (uwS x y z none) .normal:=by unfold Lands;kernel_rfl
theorem uwO0(x y z:Nat):(uw0 x y z).ob=[]:=by kernel_rfl
noncomputable def uwRec(x y z:Nat):Option (St×List CR):=runRec prog EG (run prog EG OUw 60).1 uwOps (uwOps.toList.take 9) (uw0 x y z)
noncomputable def uw1(x y z:Nat):St:=match uwRec x y z with|some (s,_)=>s|none=>uw0 x y z
noncomputable def uwCr(x y z:Nat):List CR:=match uwRec x y z with|some (_,c)=>c|none=>[]
theorem uwRec_eq(x y z:Nat):uwRec x y z=some (uw1 x y z,uwCr x y z):=by kernel_rfl
noncomputable def uwA:List Nat:=ancs uwOps.toList []
theorem uwA_ok:okAnc uwA uwOps.toList 0=true:=by kernel_rfl
theorem uwPairs(x y z:Nat):okPairs uwA uwOps (uw0 x y z).T.length (uwCr x y z) 0 []=true:=by kernel_rfl
theorem uw1_ob(x y z:Nat):(uw1 x y z).ob=[(Nat.blt z 18446744073709551616,true),(Nat.blt y 18446744073709551616,true),(Nat.blt x 18446744073709551616,true)]:=by kernel_rfl
theorem uwSz:uwOps.size=11:=by kernel_rfl
theorem uwAll:((List.range 11).all fun j=>Nat.blt j 9||(List.range 9).all fun i=>(uwA.getD j 0).testBit i)=true:=by kernel_rfl
end Go.Proofs.YtejcekikbnlllaaGreat
namespace Rx
open Go
theorem exec_max3{P:Program}{ρ:Operand->Value}{c:Call}{o:Oper}{x y z:Nat}{w:World}(hop:o.op= .call c)(hc:c.callee= .builtin .max)(p q r:Operand)(ha:c.args= #[p,q,r])(h1:ρ p= .float .f64 x)(h2:ρ q= .float .f64 y)(h3:ρ r= .float .f64 z) :
  ∃b n,(execOp ρ o).run P w= .ok (.value (.float .f64 b)) {w with drawn:=w.drawn+n}:=by
 obtain⟨b,n,h⟩:=max3_any P c.argTypes o.type x y z w;refine⟨b,n,?_⟩;simp only[execOp,hop,resolve,hc,ha,invoke,builtin,Sem.run_bind,Sem.run_pure,Result.andThen_ok,List.map_toArray,List.map_cons,List.map_nil,h1,h2,h3,h]
theorem mem_drew{m:Nms}{w:World}{M:List Blk}(h:MemAt m w M)(n:Nat):MemAt m {w with drawn:=n} M:=
 ⟨⟨h.ok.lt⟩,h.inj,fun k b hb=>let ⟨r,hr,hat⟩:=h.blk k b hb;⟨r,hr,hat.ext (Ext.refl m) hr rfl⟩,h.dom⟩
theorem goes_drew(m:Nms)(M:List Blk)(w:World)(n:Nat):Goes m M w m M {w with drawn:=n}:=
 ⟨Ext.refl m,⟨rfl,rfl,rfl,Nat.le_refl _,fun _ _ _=>rfl⟩,fun _ _ h=> .inl h,fun _ _ _ h=>h⟩
theorem st_put{m:Nms}{s:St}{a:Act}{w:World}(h:StAt m s a w){x:SV}{v:Value}(hx:den m x=some v)(dst:Option Tmp)(n:Nat):StAt m ⟨putT dst x s.T,s.M,s.ds,s.ob⟩ (a.put dst v) {w with drawn:=n}:=
 ⟨putT_ok h.tm hx dst,by cases dst<;>exact h.df,mem_drew h.mem n⟩
theorem den_f(m:Nms)(n:Nat):den m (.f n)=some (.float .f64 n):=rfl
theorem st_ev{m:Nms}{s:St}{a:Act}{w:World}(h:StAt m s a w){t:Nat}{v:SV}{u:Value}(h1:s.T[t]? =some v)(h2:den m v=some u):a.eval (.tmp t)=u:=by
 obtain⟨u',h3,h4⟩:=dens_get h.tm h1;rw[h2]at h4;obtain rfl:=Option.some.inj h4;have h5:a.tmps[t]? =some u:=by simpa using h3
 simp[Act.eval,h5]
theorem tail_max{P:Program}{Q:Exit->Act->World->Prop}{ops:Array Oper}{ls:Array Bool}{i j f p q r d e:Nat}{oi oj:Oper}{c:Call}(h1:ops[i]? =some oi)(h2:ops[j]? =some oj)(r1:Region.ready .any ops ls=[i])(r2:Region.ready .any ops (ls.setIfInBounds i true)=[j])(r3:Region.ready .any ops ((ls.setIfInBounds i true).setIfInBounds j true)=[])
  (op1:oi.op= .call c) (cal:c.callee= .builtin .max) (ar:c.args= #[.tmp p,.tmp q,.tmp r]) (d1:oi.dst=some d) (g1:oi.guard=none) (op2:oj.op= .assign (.tmp d)) (d2:oj.dst=some e) (g2:oj.guard=none)
  {m:Nms} {s:St} {a:Act} {w:World} {x y z:Nat} (hs:StAt m s a w) (t1:s.T[p]? =some (.f x)) (t2:s.T[q]? =some (.f y)) (t3:s.T[r]? =some (.f z)) (t4:∀b,(putT (some d) (.f b) s.T)[d]? =some (.f b))
  (fin:∀b n a',StAt m ⟨putT (some e) (.f b) (putT (some d) (.f b) s.T),s.M,s.ds,s.ob⟩ a' {w with drawn:=n}->Q .normal a' {w with drawn:=n}):wpAny P .any ops Q (f+2) ls a w:=by
 refine⟨fun hr=>absurd (hr.symm.trans r1) (by simp),fun k hk=> ?_⟩;rw[r1,List.mem_singleton]at hk;subst hk;unfold wpOp;simp only[h1];rw[if_pos (by unfold Region.wanted;rw[g1])];left;obtain⟨b,n,he⟩:=exec_max3 (P:=P) (ρ:=a.eval) (w:=w) op1 cal (.tmp p) (.tmp q) (.tmp r) ar (st_ev hs t1 (den_f _ _)) (st_ev hs t2 (den_f _ _)) (st_ev hs t3 (den_f _ _));unfold Oper.wp;rw[he,Oper.upon_value,d1];have s2:StAt m ⟨putT (some d) (.f b) s.T,s.M,s.ds,s.ob⟩ (a.put (some d) (.float .f64 b)) {w with drawn:=w.drawn+n}:=st_put (x:= .f b) (v:= .float .f64 b) hs (den_f _ _) (some d) (w.drawn+n);refine⟨fun hr=>absurd (hr.symm.trans r2) (by simp),fun k hk=> ?_⟩;rw[r2,List.mem_singleton]at hk;subst hk;unfold wpOp;simp only[h2];rw[if_pos (by unfold Region.wanted;rw[g2])];left;have e17:(a.put (some d) (.float .f64 b)).eval (.tmp d)= .float .f64 b:=st_ev s2 (t4 b) (den_f _ _);unfold Oper.wp;have he2:(execOp (a.put (some d) (.float .f64 b)).eval oj).run P {w with drawn:=w.drawn+n}= .ok (.value (.float .f64 b)) {w with drawn:=w.drawn+n}:=by simp only[execOp,op2,e17,Sem.run_pure]
 rw[he2,Oper.upon_value,d2];have s3:=st_put (x:= .f b) (v:= .float .f64 b) s2 (den_f _ _) (some e) (w.drawn+n);have fn:=fin b (w.drawn+n) _ s3;cases f with
 |zero=>exact⟨r3,fn⟩
 | succ f =>
   refine⟨fun _=>fn,fun k hk=> ?_⟩;rw[r3]at hk;cases hk
end Rx
namespace Go.Proofs.YtejcekikbnlllaaGreat
open Go.RowKit Bu Rx
theorem uw9s:(uwOps[9]?).isSome=true:=by kernel_rfl
theorem uw10s:(uwOps[10]?).isSome=true:=by kernel_rfl
noncomputable def uw9:Oper:=(uwOps[9]?).get uw9s
noncomputable def uw10:Oper:=(uwOps[10]?).get uw10s
def callOf:Op->Option Call| .call c=>some c|_=>none
theorem uw9c:(callOf uw9.op).isSome=true:=by kernel_rfl
noncomputable def uw9k:Call:=(callOf uw9.op).get uw9c
theorem uw9op:uw9.op= .call uw9k:=by kernel_rfl
theorem uw9ca:uw9k.callee= .builtin .max:=by kernel_rfl
theorem uw9ar:uw9k.args= #[.tmp 10,.tmp 13,.tmp 16]:=by kernel_rfl
theorem uw9d:uw9.dst=some 17:=by kernel_rfl
theorem uw9g:uw9.guard=none:=by kernel_rfl
theorem uw10op:uw10.op= .assign (.tmp 17):=by kernel_rfl
theorem uw10d:uw10.dst=some 4:=by kernel_rfl
theorem uw10g:uw10.guard=none:=by kernel_rfl
def uwLs:Array Bool:= #[true,true,true,true,true,true,true,true,true,false,false]
theorem uwRdy:Region.ready .any uwOps uwLs=[9]:=by kernel_rfl
theorem uwRdy2:Region.ready .any uwOps (uwLs.setIfInBounds 9 true)=[10]:=by kernel_rfl
theorem uwRdy3:Region.ready .any uwOps ((uwLs.setIfInBounds 9 true).setIfInBounds 10 true)=[]:=by kernel_rfl
theorem uwT10(x y z:Nat):(uw1 x y z).T[10]? =some (.f (x%9223372036854775808)):=by kernel_rfl
theorem uwT13(x y z:Nat):(uw1 x y z).T[13]? =some (.f (y%9223372036854775808)):=by kernel_rfl
theorem uwT16(x y z:Nat):(uw1 x y z).T[16]? =some (.f (z%9223372036854775808)):=by kernel_rfl
theorem uwT17(x y z b:Nat):(putT (some 17) (.f b) (uw1 x y z).T)[17]? =some (.f b):=by kernel_rfl
def uwBs(s:St)(b:Nat):St:=⟨putT (some 4) (.f b) (putT (some 17) (.f b) s.T),s.M,s.ds,s.ob⟩
noncomputable def uwB(x y z b:Nat):St:=uwBs (uw1 x y z) b
theorem uwAll_at{j i:Nat}(hj:9<=j)(hj2:j<uwOps.size)(hi:i<9):(uwA.getD j 0).testBit i=true:=by
 rw[uwSz]at hj2;have h:=List.all_eq_true.1 uwAll j (List.mem_range.2 hj2);rw[Bool.or_eq_true]at h;rcases h with h|h
 ·rw[Nat.blt_eq]at h;omega
 ·exact List.all_eq_true.1 h i (List.mem_range.2 hi)
theorem uwLs_of{l:Array Bool}(hs:l.size=uwOps.size)(h:∀j,j<uwOps.size->l.getD j false=decide (j<9)):l=uwLs:=by
 rw[uwSz]at hs h;refine Array.ext hs fun i h1 h2=> ?_;have e:=h i (by omega);rw[Array.getD_eq_getD_getElem?,Array.getElem?_eq_getElem h1,Option.getD_some]at e;rw[e];have h3:i<11:=by omega
 clear e h1
 match i,h3 with
 |0,_|1,_|2,_|3,_|4,_|5,_|6,_|7,_|8,_|9,_|10,_=>rfl
set_option maxHeartbeats 4000000 in
theorem uwMax{x y z:Nat}(hx:x<18446744073709551616)(hy:y<18446744073709551616)(hz:z<18446744073709551616):RunsP prog (.region (idOf uwR1) uwOps true) (uw0 x y z) .normal (fun t=>∃b,t=uwB x y z b):=by
 intro m a w Q hs hq;have hob:ObsOk (uw1 x y z).ob:=by rw[uw1_ob];intro p hp;simp only[List.mem_cons,List.not_mem_nil,or_false]at hp;rcases hp with rfl|rfl|rfl<;>(rw[Nat.blt_eq];assumption)
 refine runDrawK_ok goodG (run_ok goodG oracleUw 60).1 (k:=9) (by rw[uwSz];decide) (uwRec_eq x y z) uwA_ok (uwPairs x y z) (fun j h1 h2 i h3=>uwAll_at h1 h2 h3) hob hs (fun m' a' w' fuel listed hsz hl hf hs' hg'=> ?_);obtain rfl:=uwLs_of hsz hl;rw[uwSz]at hf;obtain⟨f,rfl⟩:∃f,fuel=f+2:=⟨fuel-2,by omega⟩;have h9:uwOps[9]? =some uw9:=(Option.some_get uw9s).symm;have h10:uwOps[10]? =some uw10:=(Option.some_get uw10s).symm;have t10:=uwT10 x y z;have t13:=uwT13 x y z;have t16:=uwT16 x y z;have t17:=uwT17 x y z;have hq':∀b a'' n,StAt m' (uwBs (uw1 x y z) b) a'' {w' with drawn:=n}->Goes m (uw0 x y z).M w m' (uwBs (uw1 x y z) b).M {w' with drawn:=n}->Q (exOf .normal) a'' {w' with drawn:=n}:=fun b a'' n h1 h2=>hq _ m' a'' _ ⟨b,rfl⟩ h1 h2;generalize uw1 x y z=s at hs' hg' t10 t13 t16 t17 hq';clear hob hq hs;generalize (uw0 x y z).M=M0 at*;exact tail_max h9 h10 uwRdy uwRdy2 uwRdy3 uw9op uw9ca uw9ar uw9d uw9g uw10op uw10d uw10g hs' t10 t13 t16 t17 fun b n a'' s3=>hq' b a'' n s3 (hg'.trans (goes_drew m' _ w' n))
end Go.Proofs.YtejcekikbnlllaaGreat
namespace Rx
open Go Go.RowKit
theorem calls_of_runsP{P:Program}{g:FuncId}{fn:Func}{c:Code}{args:List SV}{Φ:St->Prop}{x:SV}{vs:List Value}{v:Value}(hg:P.funcs[g]? =some fn)(hb:fn.body=some c)
  (h:RunsP P c ⟨args++List.replicate (fn.ntmps-args.length) (.tup []),[],none,[]⟩ .ret Φ) (hx:∀t,Φ t->resultS P fn t=some x) (hvs:plains args=some vs) (hv:plain x=some v) (w:World) :
  Calls P g vs.toArray w fun e w'=>e= .returned v/\Below w.heap.size w w':=
 (RunsP.call (x:=fun _=>x) hg hb h hx (dens_plains (m:=Nms.no) hvs) (MemAt.no w)).mono fun e w' ⟨t,m',u,_,h2,h3,_,h5⟩=>by have h6:=den_plain (m:=m') hv;rw[h3]at h6;obtain rfl:=Option.some.inj h6;exact⟨h2,h5.none⟩
theorem RunsP.any{P:Program}{c:Code}{s:St}{d:Dec}{ex:Ex}{Φ:St->Prop}(k:RunsP P c ⟨s.T,s.M,d,[]⟩ ex Φ):RunsP P c s ex Φ:=k.retell (SameSt.same s.T s.M d s.ds [] s.ob)
end Rx
namespace Go.Proofs.YtejcekikbnlllaaGreat
open Go.RowKit Bu Rx
noncomputable def uwQ(x y z b:Nat)(d:Dec):St:=⟨(uwB x y z b).T,(uwB x y z b).M,d,[]⟩
def uw50:SV:= .tup [V3.zero.sv,.i .i64 50]
def uwD0:Dec:=some [false]
def uwD1:Dec:=some [true,false]
def uwD2:Dec:=some [true,true,false]
theorem uwF0(x y z b:Nat):Lands prog EG OUw 60 uwTl (uwQ x y z b uwD0) .ret:=by unfold Lands;kernel_rfl
theorem uwF1(x y z b:Nat):Lands prog EG OUw 60 uwTl (uwQ x y z b uwD1) .ret:=by unfold Lands;kernel_rfl
theorem uwF2(x y z b:Nat):Lands prog EG OUw 60 uwTl (uwQ x y z b uwD2) .ret:=by unfold Lands;kernel_rfl
theorem uwE0(x y z b:Nat):(aft prog EG OUw 60 uwTl (uwQ x y z b uwD0)).ob=[(Nat.blt x 18446744073709551616,true),(rightB x,false)]:=by kernel_rfl
theorem uwE1(x y z b:Nat):(aft prog EG OUw 60 uwTl (uwQ x y z b uwD1)).ob=[(Nat.blt y 18446744073709551616,true),(rightB y,false),(rightB x,true)]:=by kernel_rfl
theorem uwE2(x y z b:Nat):(aft prog EG OUw 60 uwTl (uwQ x y z b uwD2)).ob=[(Nat.blt z 18446744073709551616,true),(rightB z,false),(rightB y,true),(rightB x,true)]:=by kernel_rfl
theorem uwV0(x y z b:Nat):resultS prog Tryz.f17 (aft prog EG OUw 60 uwTl (uwQ x y z b uwD0))=some uw50:=by kernel_rfl
theorem uwV1(x y z b:Nat):resultS prog Tryz.f17 (aft prog EG OUw 60 uwTl (uwQ x y z b uwD1))=some uw50:=by kernel_rfl
theorem uwV2(x y z b:Nat):resultS prog Tryz.f17 (aft prog EG OUw 60 uwTl (uwQ x y z b uwD2))=some uw50:=by kernel_rfl
def rt3W(x y z:Nat):Bool:=rightB x&&rightB y&&rightB z
theorem uwTail{x y z:Nat}(hx:x<18446744073709551616)(hy:y<18446744073709551616)(hz:z<18446744073709551616)(h:rt3W x y z=false)(b:Nat):RunsP prog uwTl (uwB x y z b) .ret (fun t=>resultS prog Tryz.f17 t=some uw50):=by
 have bl:∀{n:Nat},n<18446744073709551616->Nat.blt n 18446744073709551616=true:=fun h=>by rw[Nat.blt_eq];exact h
 have q:∀d,RunsP prog uwTl (uwQ x y z b d) .ret (fun t=>resultS prog Tryz.f17 t=some uw50)->RunsP prog uwTl (uwB x y z b) .ret (fun t=>resultS prog Tryz.f17 t=some uw50):=fun d k=>RunsP.any (d:=d) k;unfold rt3W at h;cases h1:rightB x
 ·exact q uwD0 ((Lands.runs goodG oracleUw (uwF0 x y z b) (by rw[uwE0];exact ObsOk.of_B (obsB_yes (bl hx) (obsB_yes h1 obsB_nil)))).mono fun t ht=>by rw[ht];exact uwV0 x y z b)
 cases h2:rightB y
 ·exact q uwD1 ((Lands.runs goodG oracleUw (uwF1 x y z b) (by rw[uwE1];exact ObsOk.of_B (obsB_yes (bl hy) (obsB_yes h2 (obsB_yes h1 obsB_nil))))).mono fun t ht=>by rw[ht];exact uwV1 x y z b)
 cases h3:rightB z
 ·exact q uwD2 ((Lands.runs goodG oracleUw (uwF2 x y z b) (by rw[uwE2];exact ObsOk.of_B (obsB_yes (bl hz) (obsB_yes h3 (obsB_yes h2 (obsB_yes h1 obsB_nil)))))).mono fun t ht=>by rw[ht];exact uwV2 x y z b)
 rw[h1,h2,h3]at h;cases h
def kUw:List SV->Dec->Option (SV×Dec×Obs)
 | [.agg [.f x,.f y,.f z]],ds=>some (uw50,ds,[(Nat.blt x 18446744073709551616,true),(Nat.blt y 18446744073709551616,true),(Nat.blt z 18446744073709551616,true),(rt3W x y z,false)])
 |_,_=>none
theorem unWG:PlainOk prog 17 kUw:=by
 intro args ds r ds' ob h ho;unfold kUw at h;split at h
 ·rename_i x y z;simp only[sIz,pIz]at h;obtain⟨rfl,_,rfl⟩:=h;have bl:∀{n:Nat},Nat.blt n 18446744073709551616=true->n<18446744073709551616:=fun h=>by rw[Nat.blt_eq]at h;exact h
  have hx:=bl (ho _ (List.mem_cons_self ..));have hy:=bl (ho _ (List.mem_cons_of_mem _ (List.mem_cons_self ..)));have hz:=bl (ho _ (List.mem_cons_of_mem _ (List.mem_cons_of_mem _ (List.mem_cons_self ..))));have hr:rt3W x y z=false:=ho _ (List.mem_cons_of_mem _ (List.mem_cons_of_mem _ (List.mem_cons_of_mem _ (List.mem_cons_self ..))));refine⟨[.agg #[.float .f64 x,.float .f64 y,.float .f64 z]],.tuple #[.agg #[.float .f64 F.zero.b,.float .f64 F.zero.b,.float .f64 F.zero.b,.float .f64 F.zero.b,.float .f64 F.zero.b,.float .f64 F.zero.b],.int .i64 50],rfl,rfl,fun w=> ?_⟩;refine calls_of_runsP (x:=uw50) (args:=[.agg [.f x,.f y,.f z]]) Tryz.func17 uwBody (Φ:=fun t=>resultS prog Tryz.f17 t=some uw50) ?_ (fun t h=>h) rfl rfl w;rw[uwCut];show RunsP prog _ (uwS x y z none) .ret _;refine Lands.seq goodG oracleUw (uwL0 x y z) (show ObsOk (uw0 x y z).ob by rw[uwO0];exact ObsOk.of_B obsB_nil) ?_;exact RunsP.seq (uwMax hx hy hz) fun t ⟨b,ht⟩=>by rw[ht];exact uwTail hx hy hz hr b
 ·cases h
end Go.Proofs.YtejcekikbnlllaaGreat
