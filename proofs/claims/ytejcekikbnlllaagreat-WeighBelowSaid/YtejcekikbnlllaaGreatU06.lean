/- Package dir by the reckoner: what is known. Package dir by the reckoner: sums. Package .. -/
import Derived.Shelf.Spec.BitsCarry
import Derived.Deep.CutBlock
import Derived.Test.YtejcekikbnlllaaGreatU05
set_option linter.all false
set_option maxRecDepth 100000
open Go.Proofs.Tryz(prog)
namespace Go.Proofs.YtejcekikbnlllaaGreat
open Go.RowKit Bu Rx
theorem fbE:ExtOne prog 130 oFb:=by
 intro args x ob h _ m vs hvs;unfold oFb at h;split at h
 ·simp only[sIz,pIz]at h;obtain⟨rfl,_⟩:=h;simp only[dens,den,Option.bind_some,Option.map_some,sIz]at hvs;subst hvs;exact⟨_,rfl,fun w=>run_fbits _ w⟩
 ·simp only[sIz,pIz]at h;obtain⟨rfl,_⟩:=h;simp only[dens,den,Option.bind_some,Option.map_some,sIz]at hvs;subst hvs;exact⟨_,rfl,fun w=>run_fbits _ w⟩
 ·cases h
theorem ffE:ExtOne prog 129 oFf:=by
 intro args x ob h _ m vs hvs;unfold oFf at h;split at h
 ·simp only[sIz,pIz]at h;obtain⟨rfl,_⟩:=h;simp only[dens,den,Option.bind_some,Option.map_some,sIz]at hvs;subst hvs;exact⟨_,rfl,fun w=>run_ffrom _ w⟩
 ·simp only[sIz,pIz]at h;obtain⟨rfl,_⟩:=h;simp only[dens,den,Option.bind_some,Option.map_some,sIz]at hvs;subst hvs;exact⟨_,rfl,fun w=>run_ffrom _ w⟩
 ·cases h
theorem add64_f(x y c:Nat)(hc:c<=1)(w:World):(callFunc 241 #[.int .u64 x,.int .u64 y,.int .u64 c]).run prog w=
  .ok (.value (.tuple #[.int .u64 (((x+y+c)%18446744073709551616:Nat):Int),.int .u64 (((x+y+c)/18446744073709551616:Nat):Int)])) w:=by
 rw[run_callFunc_extern (e:=add64Entry) Tryz.func241 (by kernel_rfl) (by kernel_rfl) (by kernel_rfl) (by kernel_rfl),run_add64 x y c (by omega) (by omega) (by omega) (by omega)];simp only[Result.andThen];congr 5<;>omega
theorem sub64_f(x y b:Nat)(hb:b<=1)(w:World):(callFunc 242 #[.int .u64 x,.int .u64 y,.int .u64 b]).run prog w=
  .ok (.value (.tuple #[.int .u64 (((x+18446744073709551616-y-b)%18446744073709551616:Nat):Int),.int .u64 ((if x<y+b then 1 else 0:Nat):Int)])) w:=by
 rw[run_callFunc_extern (e:=sub64Entry) Tryz.func242 (by kernel_rfl) (by kernel_rfl) (by kernel_rfl) (by kernel_rfl),run_sub64 x y b hb];rfl
theorem plains3{x y z:SV}{vs:List Value}{a b c:Value}(hx:plain x=some a)(hy:plain y=some b)(hz:plain z=some c){m:Nms}(h:dens m [x,y,z]=some vs):vs=[a,b,c]:=by have:=dens_plains (m:=m) (plains_cons hx (plains_cons hy (plains_cons hz plains_nil)));rw[h]at this;exact Option.some.inj this
theorem addE:ExtOne prog 241 oAdd64:=by
 intro args x ob h ho m vs hvs;unfold oAdd64 at h;split at h
 ·split at h
  ·rename_i a b c ha hb hc;simp only[sIz,pIz]at h;obtain⟨rfl,rfl⟩:=h;have h1:=oTz (obs1 ho);obtain rfl:=plains3 (intS_plain ha) (intS_plain hb) (intS_plain hc) hvs;obtain⟨p,rfl⟩:=Int.eq_ofNat_of_zero_le h1.1;obtain⟨q,rfl⟩:=Int.eq_ofNat_of_zero_le h1.2.1;obtain⟨r,rfl⟩:=Int.eq_ofNat_of_zero_le h1.2.2.1;refine⟨_,rfl,fun w=> ?_⟩;rw[show([Value.int .u64 (p:Int),.int .u64 (q:Int),.int .u64 (r:Int)]:List Value).toArray= #[.int .u64 (p:Int),.int .u64 (q:Int),.int .u64 (r:Int)]from rfl,add64_f p q r (by omega)];have e1:(((p+q+r)%18446744073709551616:Nat):Int)=((p:Int)+q+r)%18446744073709551616:=by omega
   have e2:(((p+q+r)/18446744073709551616:Nat):Int)=((p:Int)+q+r)/18446744073709551616:=by omega
   rw[e1,e2]
  ·cases h
 ·cases h
theorem subE:ExtOne prog 242 oSub64:=by
 intro args x ob h ho m vs hvs;unfold oSub64 at h;split at h
 ·split at h
  ·rename_i a b c ha hb hc;simp only[sIz,pIz]at h;obtain⟨rfl,rfl⟩:=h;have h1:=oTz (obs1 ho);obtain rfl:=plains3 (intS_plain ha) (intS_plain hb) (intS_plain hc) hvs;obtain⟨p,rfl⟩:=Int.eq_ofNat_of_zero_le h1.1;obtain⟨q,rfl⟩:=Int.eq_ofNat_of_zero_le h1.2.1;obtain⟨r,rfl⟩:=Int.eq_ofNat_of_zero_le h1.2.2.1;refine⟨_,rfl,fun w=> ?_⟩;rw[show([Value.int .u64 (p:Int),.int .u64 (q:Int),.int .u64 (r:Int)]:List Value).toArray= #[.int .u64 (p:Int),.int .u64 (q:Int),.int .u64 (r:Int)]from rfl,sub64_f p q r (by omega)];have e1:(((p+18446744073709551616-q-r)%18446744073709551616:Nat):Int)=((p:Int)-q-r)%18446744073709551616:=by omega
   have e2:((if p<q+r then 1 else 0:Nat):Int)=if (p:Int)<q+r then 1 else 0:=by split<;>split<;>omega
   rw[e1,e2]
  ·cases h
 ·cases h
def EG:ExtF:=lookE [(130,oFb),(129,oFf),(241,oAdd64),(242,oSub64)]
theorem goodG:Rx.Good prog EG:=Rx.Good.of (by kernel_rfl) (by kernel_rfl) (.cons fbE (.cons ffE (.cons addE (.cons subE (.nil _)))))
theorem oracle0:OracleOk prog (lookO []):= .nil _
theorem wadd_w(a b c d:Int)(h:u64B a=true/\u64B b=true/\u64B c=true/\u64B d=true)(w:World) :
  Calls prog 170 #[.agg #[.int .u64 a,.int .u64 b],.agg #[.int .u64 c,.int .u64 d]] w fun e w'=>
   e= .returned (.agg #[.int .u64 ((a+c+(b+d+0)/18446744073709551616)%18446744073709551616),.int .u64 ((b+d+0)%18446744073709551616)])/\Below w.heap.size w w':=by
 unfold u64B at h;simp only[decide_eq_true_eq]at h;refine calls_of_run goodG oracle0 60 (g:=170) (args:=[.agg [.si .u64 a,.si .u64 b],.agg [.si .u64 c,.si .u64 d]]) (ds:=some []) (x:= .agg [.si .u64 ((a+c+(b+d+0)/18446744073709551616)%18446744073709551616),.si .u64 ((b+d+0)%18446744073709551616)])
  (M':=[⟨210,[.si .u64 a,.si .u64 b],.ex⟩,⟨210,[.si .u64 c,.si .u64 d],.ex⟩,⟨210,[.si .u64 ((a+c+(b+d+0)/18446744073709551616)%18446744073709551616),.si .u64 ((b+d+0)%18446744073709551616)],.ex⟩]) (ds':=some [])
  (ob:=[(decide (0<=a/\0<=c/\0<=(b+d+0)/18446744073709551616/\(b+d+0)/18446744073709551616<=1),true),(decide (0<=b/\0<=d/\(0:Int)<=0/\(0:Int)<=1),true)]) (by kernel_rfl) (ObsOk.of_B ?_) rfl rfl w
 have h1:decide (0<=a/\0<=c/\0<=(b+d+0)/18446744073709551616/\(b+d+0)/18446744073709551616<=1)=true:=dT (by omega);have h2:decide (0<=b/\0<=d/\(0:Int)<=0/\(0:Int)<=1)=true:=dT (by omega);simp only[obsB,List.all_cons,List.all_nil,h1,h2,beq_self_eq_true,Bool.and_self]
theorem wsub_w(a b c d:Int)(h:u64B a=true/\u64B b=true/\u64B c=true/\u64B d=true)(w:World) :
  Calls prog 171 #[.agg #[.int .u64 a,.int .u64 b],.agg #[.int .u64 c,.int .u64 d]] w fun e w'=>
   e= .returned (.agg #[.int .u64 ((a-c-(if b<d+0 then 1 else 0))%18446744073709551616),.int .u64 ((b-d-0)%18446744073709551616)])/\Below w.heap.size w w':=by
 unfold u64B at h;simp only[decide_eq_true_eq]at h;refine calls_of_run goodG oracle0 60 (g:=171) (args:=[.agg [.si .u64 a,.si .u64 b],.agg [.si .u64 c,.si .u64 d]]) (ds:=some []) (x:= .agg [.si .u64 ((a-c-(if b<d+0 then 1 else 0))%18446744073709551616),.si .u64 ((b-d-0)%18446744073709551616)])
  (M':=[⟨210,[.si .u64 a,.si .u64 b],.ex⟩,⟨210,[.si .u64 c,.si .u64 d],.ex⟩,⟨210,[.si .u64 ((a-c-(if b<d+0 then 1 else 0))%18446744073709551616),.si .u64 ((b-d-0)%18446744073709551616)],.ex⟩]) (ds':=some [])
  (ob:=[(decide (0<=a/\0<=c/\0<=(if b<d+0 then 1 else 0:Int)/\(if b<d+0 then 1 else 0:Int)<=1/\a<=18446744073709551615/\c<=18446744073709551615),true),(decide (0<=b/\0<=d/\(0:Int)<=0/\(0:Int)<=1/\b<=18446744073709551615/\d<=18446744073709551615),true)]) (by kernel_rfl) (ObsOk.of_B ?_) rfl rfl w
 have h1:decide (0<=a/\0<=c/\0<=(if b<d+0 then 1 else 0:Int)/\(if b<d+0 then 1 else 0:Int)<=1/\a<=18446744073709551615/\c<=18446744073709551615)=true:=dT (by split<;>omega);have h2:decide (0<=b/\0<=d/\(0:Int)<=0/\(0:Int)<=1/\b<=18446744073709551615/\d<=18446744073709551615)=true:=dT (by omega);simp only[obsB,List.all_cons,List.all_nil,h1,h2,beq_self_eq_true,Bool.and_self]
def oParts:List SV->Dec->Option (SV×Dec×Obs)
 | [.fl x],ds=>(takeB ds (sg x)).map fun r=>(.tup [.b r.1,.si .u64 (mn x),.si .i64 ((ex x:Int)-1074)],r.2.1,r.2.2)
 |_,_=>none
def oDown:List SV->Dec->Option (SV×Dec×Obs)
 | [.agg [x, y], z], ds => match intS x, intS y, intS z with
   | some (.u64, a), some (.u64, b), some (.i64, n) => (takeB ds (decide (wn a b % 2 ^ n.toNat ≠ 0))).map fun r =>
     (.tup [.agg [.si .u64 (hi (wn a b/2^n.toNat)),.si .u64 (lo (wn a b/2^n.toNat))],.b r.1],r.2.1,(u64B a,true)::(u64B b,true)::(decide (0<=n),true)::r.2.2)
   |_,_,_=>none
 |_,_=>none
def oRound:List SV->Dec->Option (SV×Dec×Obs)
 | [.agg [.b minus, x, y, .b more, z], .b up], ds => match intS x, intS y, intS z with
   |some (.u64,a),some (.u64,b),some (.i64,e)=>some (.tup [.fl (rndG minus (wn a b) more e up).1,.si .i64 (rndG minus (wn a b) more e up).2],ds,[(u64B a,true),(u64B b,true),(decide (-5000<=e/\e<=5000),true)])
   |_,_,_=>none
 |_,_=>none
def oWadd:List SV->Dec->Option (SV×Dec×Obs)
 | [.agg [x, y], .agg [z, u]], ds => match intS x, intS y, intS z, intS u with
   |some (.u64,a),some (.u64,b),some (.u64,c),some (.u64,d)=>some (.agg [.si .u64 ((a+c+(b+d+0)/18446744073709551616)%18446744073709551616),.si .u64 ((b+d+0)%18446744073709551616)],ds,[(u64B a,true),(u64B b,true),(u64B c,true),(u64B d,true)])
   |_,_,_,_=>none
 |_,_=>none
def oWsub:List SV->Dec->Option (SV×Dec×Obs)
 | [.agg [x, y], .agg [z, u]], ds => match intS x, intS y, intS z, intS u with
   |some (.u64,a),some (.u64,b),some (.u64,c),some (.u64,d)=>some (.agg [.si .u64 ((a-c-(if b<d+0 then 1 else 0))%18446744073709551616),.si .u64 ((b-d-0)%18446744073709551616)],ds,[(u64B a,true),(u64B b,true),(u64B c,true),(u64B d,true)])
   |_,_,_,_=>none
 |_,_=>none
theorem rightG:PlainOk prog 60 oRight:=by
 intro args ds x ds' ob h ho;unfold oRight at h;split at h
 ·rename_i x;simp only[sIz,pIz]at h;obtain⟨rfl,_,_⟩:=h;refine⟨[.float .f64 x.b],.bool true,rfl,rfl,fun w=>(right_F_w x w).mono ?_⟩;rintro e w' ⟨rfl,rfl⟩;exact⟨rfl,Below.refl _ _⟩
 ·rename_i v;split at h
  ·rename_i hb;simp only[sIz,pIz]at h;obtain⟨rfl,_,rfl⟩:=h;have hr:=takeB_ok hb ho;obtain⟨y,rfl⟩:=F_of_right hr.symm;refine⟨[.float .f64 y.b],.bool true,rfl,rfl,fun w=>(right_F_w y w).mono ?_⟩;rintro e w' ⟨rfl,rfl⟩;exact⟨rfl,Below.refl _ _⟩
  ·rename_i o hb;simp only[sIz,pIz]at h;obtain⟨rfl,_,rfl⟩:=h;have hr:=takeB_ok hb (ObsOk.right (a:=[_]) ho);have hlt:=Nat.blt_eq.mp (ho _ (List.mem_cons_self ..));refine⟨[.float .f64 v],.bool false,rfl,rfl,fun w=>(right_no_w v hlt hr.symm w).mono ?_⟩;rintro e w' ⟨rfl,rfl⟩;exact⟨rfl,Below.refl _ _⟩
  ·cases h
 ·cases h
theorem partsG:PlainOk prog 154 oParts:=by
 intro args ds x ds' ob h ho;unfold oParts at h;split at h
 ·rename_i x;simp only[mIz,pIz]at h;obtain⟨⟨d,_,_⟩,h1,rfl,rfl,rfl⟩:=h;refine⟨[.float .f64 x.b],.tuple #[.bool d,.int .u64 (mn x),.int .i64 ((ex x:Int)-1074)],rfl,rfl,fun w=>(parts_F x w).mono ?_⟩;rintro e w' ⟨rfl,rfl⟩;rw[takeB_ok h1 ho];exact⟨rfl,Below.refl _ _⟩
 ·cases h
theorem u64_of{n:Int}(h:u64B n=true):0<=n/\n<=18446744073709551615:=oTz h
theorem downG:PlainOk prog 164 oDown:=by
 intro args ds x ds' ob h ho;unfold oDown at h;split at h
 ·rename_i x y z;split at h
  ·rename_i a b n ha hb hn;simp only[mIz,pIz]at h;obtain⟨⟨d,_,o⟩,h1,rfl,rfl,rfl⟩:=h;have k1:=u64_of (ho (u64B a,true) (by simp));have k2:=u64_of (ho (u64B b,true) (by simp));have k3:=oTz (ho (decide (0<=n),true) (by simp));have ho':ObsOk o:=fun p hp=>ho p (by simp[hp]);obtain⟨q,rfl⟩:=Int.eq_ofNat_of_zero_le k3;have hd:=takeB_ok h1 ho';simp only[tN]at hd ⊢;refine⟨[.agg #[.int .u64 a,.int .u64 b],.int .i64 q],.tuple #[.agg #[.int .u64 (hi (wn a b/2^q)),.int .u64 (lo (wn a b/2^q))],.bool d],plains_cons (plain_agg (plains_cons (intS_plain ha) (plains_cons (intS_plain hb) plains_nil))) (plains_cons (intS_plain hn) plains_nil),rfl,fun w=> ?_⟩;rw[hd];exact down_w a b q w k1.1 k1.2 k2.1 k2.2
  ·cases h
 ·cases h
theorem roundG:PlainOk prog 156 oRound:=by
 intro args ds x ds' ob h ho;unfold oRound at h;split at h
 ·rename_i minus x y more z up;split at h
  ·rename_i a b e ha hb he;simp only[sIz,pIz]at h;obtain⟨rfl,rfl,rfl⟩:=h;have k1:=u64_of (ho (u64B a,true) (by simp));have k2:=u64_of (ho (u64B b,true) (by simp));have k3:=oTz (ho (decide (-5000<=e/\e<=5000),true) (by simp));exact⟨[.agg #[.bool minus,.int .u64 a,.int .u64 b,.bool more,.int .i64 e],.bool up],.tuple #[.float .f64 (rndG minus (wn a b) more e up).1.b,.int .i64 (rndG minus (wn a b) more e up).2],
    plains_cons (plain_agg (plains_cons rfl (plains_cons (intS_plain ha) (plains_cons (intS_plain hb) (plains_cons rfl (plains_cons (intS_plain he) plains_nil)))))) (plains_cons rfl plains_nil),rfl,fun w=>rounded_w minus more up a b e w k1.1 k1.2 k2.1 k2.2 k3.1 k3.2⟩
  ·cases h
 ·cases h
theorem waddG:PlainOk prog 170 oWadd:=by
 intro args ds x ds' ob h ho;unfold oWadd at h;split at h
 ·rename_i x y z u;split at h
  ·rename_i a b c d ha hb hc hd;simp only[sIz,pIz]at h;obtain⟨rfl,rfl,rfl⟩:=h;exact⟨[.agg #[.int .u64 a,.int .u64 b],.agg #[.int .u64 c,.int .u64 d]],_,plains_cons (plain_agg (plains_cons (intS_plain ha) (plains_cons (intS_plain hb) plains_nil))) (plains_cons (plain_agg (plains_cons (intS_plain hc) (plains_cons (intS_plain hd) plains_nil))) plains_nil),rfl,
    fun w=>wadd_w a b c d ⟨ho (u64B a,true) (by simp),ho (u64B b,true) (by simp),ho (u64B c,true) (by simp),ho (u64B d,true) (by simp)⟩ w⟩
  ·cases h
 ·cases h
theorem wsubG:PlainOk prog 171 oWsub:=by
 intro args ds x ds' ob h ho;unfold oWsub at h;split at h
 ·rename_i x y z u;split at h
  ·rename_i a b c d ha hb hc hd;simp only[sIz,pIz]at h;obtain⟨rfl,rfl,rfl⟩:=h;exact⟨[.agg #[.int .u64 a,.int .u64 b],.agg #[.int .u64 c,.int .u64 d]],_,plains_cons (plain_agg (plains_cons (intS_plain ha) (plains_cons (intS_plain hb) plains_nil))) (plains_cons (plain_agg (plains_cons (intS_plain hc) (plains_cons (intS_plain hd) plains_nil))) plains_nil),rfl,
    fun w=>wsub_w a b c d ⟨ho (u64B a,true) (by simp),ho (u64B b,true) (by simp),ho (u64B c,true) (by simp),ho (u64B d,true) (by simp)⟩ w⟩
  ·cases h
 ·cases h
def OG1:OracleF:=lookO [(60,plainO oRight),(154,plainO oParts),(164,plainO oDown),(156,plainO oRound),(170,plainO oWadd),(171,plainO oWsub)]
theorem oracleG1:OracleOk prog OG1:= .cons rightG.of (.cons partsG.of (.cons downG.of (.cons roundG.of (.cons waddG.of (.cons wsubG.of (.nil _))))))
theorem kParts_R:kParts KR=oParts:=rfl
theorem kDown_R:kDown KR=oDown:=rfl
theorem kRound_R:kRound KR=oRound:=rfl
theorem kWadd_R:kWadd KR=oWadd:=rfl
theorem kWsub_R:kWsub KR=oWsub:=rfl
def OGK(K:Kd):OracleF:=lookO [(60,plainO oRight),(154,plainO (kParts K)),(164,plainO (kDown K)),(156,plainO (kRound K)),(170,plainO (kWadd K)),(171,plainO (kWsub K))]
theorem oracleGK:OracleOk prog (OGK KR):=by unfold OGK;rw[kParts_R,kDown_R,kRound_R,kWadd_R,kWsub_R];exact oracleG1
def kP(K:Kd)(a b:F)(same more up sa:Bool):SV:= .tup [.fl (K.rF sa (hK K same more a b) (lK K same more a b) more (eK K a) up),.si .i64 (K.rI sa (hK K same more a b) (lK K same more a b) more (eK K a) up)]
def gtK(a b:Int)(d:Bool):Bool×Bool:=(decide (a>b),d)
def eqK(a b:Int)(d:Bool):Bool×Bool:=(decide (a=b),d)
theorem addRun(x y a b:F)(up:Bool){ds:List Bool}{ob:Obs}{same more sa:Bool}(h:valR ((run prog EG (OGK KR) 100).1 102 [.fl x,.fl y,.b up] [] (some ds))=some (kP KR a b same more up sa,some [],ob))(ho:obsB ob=true)
  (hq:rndG sa (wn (hA same more a b) (lA same more a b)) more (eI a) up=dAdd up x y) (w:World) :
  Calls prog 102 #[.float .f64 x.b,.float .f64 y.b,.bool up] w fun e w'=>e= .returned (.tuple #[.float .f64 (dAdd up x y).1.b,.int .i64 (dAdd up x y).2])/\Below w.heap.size w w':=by
 rw[<-hq];exact calls_of_val goodG oracleGK 100 h (ObsOk.of_B ho) rfl rfl w
def ob_far(K:Kd)(x y:F):Obs:=[gtK (K.ex y) (K.ex x) true]
theorem run_far_000(K:Kd)(x y:F)(up:Bool):valR ((run prog EG (OGK K) 100).1 102 [.fl x,.fl y,.b up] [] (some [false,false,true,false]))=some (kP K y x true false up false,some [],obK K true false y x++ob_far K x y++ [(K.sg y,false),(K.sg x,false)]):=by kernel_rfl
theorem run_far_001(K:Kd)(x y:F)(up:Bool):valR ((run prog EG (OGK K) 100).1 102 [.fl x,.fl y,.b up] [] (some [false,true,true,false]))=some (kP K y x false false up true,some [],obK K false false y x++ob_far K x y++ [(K.sg y,true),(K.sg x,false)]):=by kernel_rfl
theorem run_far_010(K:Kd)(x y:F)(up:Bool):valR ((run prog EG (OGK K) 100).1 102 [.fl x,.fl y,.b up] [] (some [true,false,true,false]))=some (kP K y x false false up false,some [],obK K false false y x++ob_far K x y++ [(K.sg y,false),(K.sg x,true)]):=by kernel_rfl
theorem run_far_011(K:Kd)(x y:F)(up:Bool):valR ((run prog EG (OGK K) 100).1 102 [.fl x,.fl y,.b up] [] (some [true,true,true,false]))=some (kP K y x true false up true,some [],obK K true false y x++ob_far K x y++ [(K.sg y,true),(K.sg x,true)]):=by kernel_rfl
theorem run_far_100(K:Kd)(x y:F)(up:Bool):valR ((run prog EG (OGK K) 100).1 102 [.fl x,.fl y,.b up] [] (some [false,false,true,true]))=some (kP K y x true true up false,some [],obK K true true y x++ob_far K x y++ [(K.sg y,false),(K.sg x,false)]):=by kernel_rfl
theorem run_far_101(K:Kd)(x y:F)(up:Bool):valR ((run prog EG (OGK K) 100).1 102 [.fl x,.fl y,.b up] [] (some [false,true,true,true]))=some (kP K y x false true up true,some [],obK K false true y x++ob_far K x y++ [(K.sg y,true),(K.sg x,false)]):=by kernel_rfl
theorem run_far_110(K:Kd)(x y:F)(up:Bool):valR ((run prog EG (OGK K) 100).1 102 [.fl x,.fl y,.b up] [] (some [true,false,true,true]))=some (kP K y x false true up false,some [],obK K false true y x++ob_far K x y++ [(K.sg y,false),(K.sg x,true)]):=by kernel_rfl
theorem run_far_111(K:Kd)(x y:F)(up:Bool):valR ((run prog EG (OGK K) 100).1 102 [.fl x,.fl y,.b up] [] (some [true,true,true,true]))=some (kP K y x true true up true,some [],obK K true true y x++ob_far K x y++ [(K.sg y,true),(K.sg x,true)]):=by kernel_rfl
theorem add_far(x y:F)(up:Bool)(h:Fst y x)(ho:obsB (ob_far KR x y)=true)(w:World) :
  Calls prog 102 #[.float .f64 x.b,.float .f64 y.b,.bool up] w fun e w'=>e= .returned (.tuple #[.float .f64 (dAdd up x y).1.b,.int .i64 (dAdd up x y).2])/\Below w.heap.size w w':=by
 have hv:=add_val up h;rw[dAdd_comm]at hv;have hk:∀same,obsB (obA same (moreN (mn x) (ex y-ex x)) y x)=true:=fun same=>obA_ok same h;have hob:∀s m p q,obsB (obA s m y x)=true->sg y=q->sg x=p->obsB (obK KR s m y x++ob_far KR x y++ [(KR.sg y,q),(KR.sg x,p)])=true:=by intro s m p q h1 h2 h3;rw[obsB_app,obsB_app,obK_R,h1,ho];exact obsB_yes h2 (obsB_yes h3 obsB_nil)
 cases hm:moreN (mn x) (ex y-ex x)<;>cases hx:sg x<;>cases hy:sg y<;>rw[hm]at hk hv<;>rw[hx,hy]at hv
 ·exact addRun x y y x up (run_far_000 KR x y up) (hob _ _ _ _ (hk _) hy hx) hv w
 ·exact addRun x y y x up (run_far_001 KR x y up) (hob _ _ _ _ (hk _) hy hx) hv w
 ·exact addRun x y y x up (run_far_010 KR x y up) (hob _ _ _ _ (hk _) hy hx) hv w
 ·exact addRun x y y x up (run_far_011 KR x y up) (hob _ _ _ _ (hk _) hy hx) hv w
 ·exact addRun x y y x up (run_far_100 KR x y up) (hob _ _ _ _ (hk _) hy hx) hv w
 ·exact addRun x y y x up (run_far_101 KR x y up) (hob _ _ _ _ (hk _) hy hx) hv w
 ·exact addRun x y y x up (run_far_110 KR x y up) (hob _ _ _ _ (hk _) hy hx) hv w
 ·exact addRun x y y x up (run_far_111 KR x y up) (hob _ _ _ _ (hk _) hy hx) hv w
def ob_low(K:Kd)(x y:F):Obs:=[eqK (K.ex y) (K.ex x) false,gtK (K.ex y) (K.ex x) false]
theorem run_low_000(K:Kd)(x y:F)(up:Bool):valR ((run prog EG (OGK K) 100).1 102 [.fl x,.fl y,.b up] [] (some [false,false,false,false,false]))=some (kP K x y true false up false,some [],obK K true false x y++ob_low K x y++ [(K.sg y,false),(K.sg x,false)]):=by kernel_rfl
theorem run_low_001(K:Kd)(x y:F)(up:Bool):valR ((run prog EG (OGK K) 100).1 102 [.fl x,.fl y,.b up] [] (some [false,true,false,false,false]))=some (kP K x y false false up false,some [],obK K false false x y++ob_low K x y++ [(K.sg y,true),(K.sg x,false)]):=by kernel_rfl
theorem run_low_010(K:Kd)(x y:F)(up:Bool):valR ((run prog EG (OGK K) 100).1 102 [.fl x,.fl y,.b up] [] (some [true,false,false,false,false]))=some (kP K x y false false up true,some [],obK K false false x y++ob_low K x y++ [(K.sg y,false),(K.sg x,true)]):=by kernel_rfl
theorem run_low_011(K:Kd)(x y:F)(up:Bool):valR ((run prog EG (OGK K) 100).1 102 [.fl x,.fl y,.b up] [] (some [true,true,false,false,false]))=some (kP K x y true false up true,some [],obK K true false x y++ob_low K x y++ [(K.sg y,true),(K.sg x,true)]):=by kernel_rfl
theorem run_low_100(K:Kd)(x y:F)(up:Bool):valR ((run prog EG (OGK K) 100).1 102 [.fl x,.fl y,.b up] [] (some [false,false,false,false,true]))=some (kP K x y true true up false,some [],obK K true true x y++ob_low K x y++ [(K.sg y,false),(K.sg x,false)]):=by kernel_rfl
theorem run_low_101(K:Kd)(x y:F)(up:Bool):valR ((run prog EG (OGK K) 100).1 102 [.fl x,.fl y,.b up] [] (some [false,true,false,false,true]))=some (kP K x y false true up false,some [],obK K false true x y++ob_low K x y++ [(K.sg y,true),(K.sg x,false)]):=by kernel_rfl
theorem run_low_110(K:Kd)(x y:F)(up:Bool):valR ((run prog EG (OGK K) 100).1 102 [.fl x,.fl y,.b up] [] (some [true,false,false,false,true]))=some (kP K x y false true up true,some [],obK K false true x y++ob_low K x y++ [(K.sg y,false),(K.sg x,true)]):=by kernel_rfl
theorem run_low_111(K:Kd)(x y:F)(up:Bool):valR ((run prog EG (OGK K) 100).1 102 [.fl x,.fl y,.b up] [] (some [true,true,false,false,true]))=some (kP K x y true true up true,some [],obK K true true x y++ob_low K x y++ [(K.sg y,true),(K.sg x,true)]):=by kernel_rfl
theorem add_low(x y:F)(up:Bool)(h:Fst x y)(ho:obsB (ob_low KR x y)=true)(w:World) :
  Calls prog 102 #[.float .f64 x.b,.float .f64 y.b,.bool up] w fun e w'=>e= .returned (.tuple #[.float .f64 (dAdd up x y).1.b,.int .i64 (dAdd up x y).2])/\Below w.heap.size w w':=by
 have hv:=add_val up h;have hk:∀same,obsB (obA same (moreN (mn y) (ex x-ex y)) x y)=true:=fun same=>obA_ok same h;have hob:∀s m p q,obsB (obA s m x y)=true->sg y=q->sg x=p->obsB (obK KR s m x y++ob_low KR x y++ [(KR.sg y,q),(KR.sg x,p)])=true:=by intro s m p q h1 h2 h3;rw[obsB_app,obsB_app,obK_R,h1,ho];exact obsB_yes h2 (obsB_yes h3 obsB_nil)
 cases hm:moreN (mn y) (ex x-ex y)<;>cases hx:sg x<;>cases hy:sg y<;>rw[hm]at hk hv<;>rw[hx,hy]at hv
 ·exact addRun x y x y up (run_low_000 KR x y up) (hob _ _ _ _ (hk _) hy hx) hv w
 ·exact addRun x y x y up (run_low_001 KR x y up) (hob _ _ _ _ (hk _) hy hx) hv w
 ·exact addRun x y x y up (run_low_010 KR x y up) (hob _ _ _ _ (hk _) hy hx) hv w
 ·exact addRun x y x y up (run_low_011 KR x y up) (hob _ _ _ _ (hk _) hy hx) hv w
 ·exact addRun x y x y up (run_low_100 KR x y up) (hob _ _ _ _ (hk _) hy hx) hv w
 ·exact addRun x y x y up (run_low_101 KR x y up) (hob _ _ _ _ (hk _) hy hx) hv w
 ·exact addRun x y x y up (run_low_110 KR x y up) (hob _ _ _ _ (hk _) hy hx) hv w
 ·exact addRun x y x y up (run_low_111 KR x y up) (hob _ _ _ _ (hk _) hy hx) hv w
def ob_top(K:Kd)(x y:F):Obs:=[gtK (K.mn y) (K.mn x) true,eqK (K.ex y) (K.ex x) true,gtK (K.ex y) (K.ex x) false]
theorem run_top_000(K:Kd)(x y:F)(up:Bool):valR ((run prog EG (OGK K) 100).1 102 [.fl x,.fl y,.b up] [] (some [false,false,false,true,true,false]))=some (kP K y x true false up false,some [],obK K true false y x++ob_top K x y++ [(K.sg y,false),(K.sg x,false)]):=by kernel_rfl
theorem run_top_001(K:Kd)(x y:F)(up:Bool):valR ((run prog EG (OGK K) 100).1 102 [.fl x,.fl y,.b up] [] (some [false,true,false,true,true,false]))=some (kP K y x false false up true,some [],obK K false false y x++ob_top K x y++ [(K.sg y,true),(K.sg x,false)]):=by kernel_rfl
theorem run_top_010(K:Kd)(x y:F)(up:Bool):valR ((run prog EG (OGK K) 100).1 102 [.fl x,.fl y,.b up] [] (some [true,false,false,true,true,false]))=some (kP K y x false false up false,some [],obK K false false y x++ob_top K x y++ [(K.sg y,false),(K.sg x,true)]):=by kernel_rfl
theorem run_top_011(K:Kd)(x y:F)(up:Bool):valR ((run prog EG (OGK K) 100).1 102 [.fl x,.fl y,.b up] [] (some [true,true,false,true,true,false]))=some (kP K y x true false up true,some [],obK K true false y x++ob_top K x y++ [(K.sg y,true),(K.sg x,true)]):=by kernel_rfl
theorem run_top_100(K:Kd)(x y:F)(up:Bool):valR ((run prog EG (OGK K) 100).1 102 [.fl x,.fl y,.b up] [] (some [false,false,false,true,true,true]))=some (kP K y x true true up false,some [],obK K true true y x++ob_top K x y++ [(K.sg y,false),(K.sg x,false)]):=by kernel_rfl
theorem run_top_101(K:Kd)(x y:F)(up:Bool):valR ((run prog EG (OGK K) 100).1 102 [.fl x,.fl y,.b up] [] (some [false,true,false,true,true,true]))=some (kP K y x false true up true,some [],obK K false true y x++ob_top K x y++ [(K.sg y,true),(K.sg x,false)]):=by kernel_rfl
theorem run_top_110(K:Kd)(x y:F)(up:Bool):valR ((run prog EG (OGK K) 100).1 102 [.fl x,.fl y,.b up] [] (some [true,false,false,true,true,true]))=some (kP K y x false true up false,some [],obK K false true y x++ob_top K x y++ [(K.sg y,false),(K.sg x,true)]):=by kernel_rfl
theorem run_top_111(K:Kd)(x y:F)(up:Bool):valR ((run prog EG (OGK K) 100).1 102 [.fl x,.fl y,.b up] [] (some [true,true,false,true,true,true]))=some (kP K y x true true up true,some [],obK K true true y x++ob_top K x y++ [(K.sg y,true),(K.sg x,true)]):=by kernel_rfl
theorem add_top(x y:F)(up:Bool)(h:Fst y x)(ho:obsB (ob_top KR x y)=true)(w:World) :
  Calls prog 102 #[.float .f64 x.b,.float .f64 y.b,.bool up] w fun e w'=>e= .returned (.tuple #[.float .f64 (dAdd up x y).1.b,.int .i64 (dAdd up x y).2])/\Below w.heap.size w w':=by
 have hv:=add_val up h;rw[dAdd_comm]at hv;have hk:∀same,obsB (obA same (moreN (mn x) (ex y-ex x)) y x)=true:=fun same=>obA_ok same h;have hob:∀s m p q,obsB (obA s m y x)=true->sg y=q->sg x=p->obsB (obK KR s m y x++ob_top KR x y++ [(KR.sg y,q),(KR.sg x,p)])=true:=by intro s m p q h1 h2 h3;rw[obsB_app,obsB_app,obK_R,h1,ho];exact obsB_yes h2 (obsB_yes h3 obsB_nil)
 cases hm:moreN (mn x) (ex y-ex x)<;>cases hx:sg x<;>cases hy:sg y<;>rw[hm]at hk hv<;>rw[hx,hy]at hv
 ·exact addRun x y y x up (run_top_000 KR x y up) (hob _ _ _ _ (hk _) hy hx) hv w
 ·exact addRun x y y x up (run_top_001 KR x y up) (hob _ _ _ _ (hk _) hy hx) hv w
 ·exact addRun x y y x up (run_top_010 KR x y up) (hob _ _ _ _ (hk _) hy hx) hv w
 ·exact addRun x y y x up (run_top_011 KR x y up) (hob _ _ _ _ (hk _) hy hx) hv w
 ·exact addRun x y y x up (run_top_100 KR x y up) (hob _ _ _ _ (hk _) hy hx) hv w
 ·exact addRun x y y x up (run_top_101 KR x y up) (hob _ _ _ _ (hk _) hy hx) hv w
 ·exact addRun x y y x up (run_top_110 KR x y up) (hob _ _ _ _ (hk _) hy hx) hv w
 ·exact addRun x y y x up (run_top_111 KR x y up) (hob _ _ _ _ (hk _) hy hx) hv w
def ob_eq(K:Kd)(x y:F):Obs:=[gtK (K.mn y) (K.mn x) false,eqK (K.ex y) (K.ex x) true,gtK (K.ex y) (K.ex x) false]
theorem run_eq_000(K:Kd)(x y:F)(up:Bool):valR ((run prog EG (OGK K) 100).1 102 [.fl x,.fl y,.b up] [] (some [false,false,false,true,false,false]))=some (kP K x y true false up false,some [],obK K true false x y++ob_eq K x y++ [(K.sg y,false),(K.sg x,false)]):=by kernel_rfl
theorem run_eq_001(K:Kd)(x y:F)(up:Bool):valR ((run prog EG (OGK K) 100).1 102 [.fl x,.fl y,.b up] [] (some [false,true,false,true,false,false]))=some (kP K x y false false up false,some [],obK K false false x y++ob_eq K x y++ [(K.sg y,true),(K.sg x,false)]):=by kernel_rfl
theorem run_eq_010(K:Kd)(x y:F)(up:Bool):valR ((run prog EG (OGK K) 100).1 102 [.fl x,.fl y,.b up] [] (some [true,false,false,true,false,false]))=some (kP K x y false false up true,some [],obK K false false x y++ob_eq K x y++ [(K.sg y,false),(K.sg x,true)]):=by kernel_rfl
theorem run_eq_011(K:Kd)(x y:F)(up:Bool):valR ((run prog EG (OGK K) 100).1 102 [.fl x,.fl y,.b up] [] (some [true,true,false,true,false,false]))=some (kP K x y true false up true,some [],obK K true false x y++ob_eq K x y++ [(K.sg y,true),(K.sg x,true)]):=by kernel_rfl
theorem run_eq_100(K:Kd)(x y:F)(up:Bool):valR ((run prog EG (OGK K) 100).1 102 [.fl x,.fl y,.b up] [] (some [false,false,false,true,false,true]))=some (kP K x y true true up false,some [],obK K true true x y++ob_eq K x y++ [(K.sg y,false),(K.sg x,false)]):=by kernel_rfl
theorem run_eq_101(K:Kd)(x y:F)(up:Bool):valR ((run prog EG (OGK K) 100).1 102 [.fl x,.fl y,.b up] [] (some [false,true,false,true,false,true]))=some (kP K x y false true up false,some [],obK K false true x y++ob_eq K x y++ [(K.sg y,true),(K.sg x,false)]):=by kernel_rfl
theorem run_eq_110(K:Kd)(x y:F)(up:Bool):valR ((run prog EG (OGK K) 100).1 102 [.fl x,.fl y,.b up] [] (some [true,false,false,true,false,true]))=some (kP K x y false true up true,some [],obK K false true x y++ob_eq K x y++ [(K.sg y,false),(K.sg x,true)]):=by kernel_rfl
theorem run_eq_111(K:Kd)(x y:F)(up:Bool):valR ((run prog EG (OGK K) 100).1 102 [.fl x,.fl y,.b up] [] (some [true,true,false,true,false,true]))=some (kP K x y true true up true,some [],obK K true true x y++ob_eq K x y++ [(K.sg y,true),(K.sg x,true)]):=by kernel_rfl
theorem add_eq(x y:F)(up:Bool)(h:Fst x y)(ho:obsB (ob_eq KR x y)=true)(w:World) :
  Calls prog 102 #[.float .f64 x.b,.float .f64 y.b,.bool up] w fun e w'=>e= .returned (.tuple #[.float .f64 (dAdd up x y).1.b,.int .i64 (dAdd up x y).2])/\Below w.heap.size w w':=by
 have hv:=add_val up h;have hk:∀same,obsB (obA same (moreN (mn y) (ex x-ex y)) x y)=true:=fun same=>obA_ok same h;have hob:∀s m p q,obsB (obA s m x y)=true->sg y=q->sg x=p->obsB (obK KR s m x y++ob_eq KR x y++ [(KR.sg y,q),(KR.sg x,p)])=true:=by intro s m p q h1 h2 h3;rw[obsB_app,obsB_app,obK_R,h1,ho];exact obsB_yes h2 (obsB_yes h3 obsB_nil)
 cases hm:moreN (mn y) (ex x-ex y)<;>cases hx:sg x<;>cases hy:sg y<;>rw[hm]at hk hv<;>rw[hx,hy]at hv
 ·exact addRun x y x y up (run_eq_000 KR x y up) (hob _ _ _ _ (hk _) hy hx) hv w
 ·exact addRun x y x y up (run_eq_001 KR x y up) (hob _ _ _ _ (hk _) hy hx) hv w
 ·exact addRun x y x y up (run_eq_010 KR x y up) (hob _ _ _ _ (hk _) hy hx) hv w
 ·exact addRun x y x y up (run_eq_011 KR x y up) (hob _ _ _ _ (hk _) hy hx) hv w
 ·exact addRun x y x y up (run_eq_100 KR x y up) (hob _ _ _ _ (hk _) hy hx) hv w
 ·exact addRun x y x y up (run_eq_101 KR x y up) (hob _ _ _ _ (hk _) hy hx) hv w
 ·exact addRun x y x y up (run_eq_110 KR x y up) (hob _ _ _ _ (hk _) hy hx) hv w
 ·exact addRun x y x y up (run_eq_111 KR x y up) (hob _ _ _ _ (hk _) hy hx) hv w
theorem add_F_w(x y:F)(up:Bool)(w:World) :
  Calls prog 102 #[.float .f64 x.b,.float .f64 y.b,.bool up] w fun e w'=>e= .returned (.tuple #[.float .f64 (dAdd up x y).1.b,.int .i64 (dAdd up x y).2])/\Below w.heap.size w w':=by
 by_cases h1:ex x<ex y
 ·exact add_far x y up (Or.inl h1) (obsB_yes (dT (show(ex y:Int)-1074>(ex x:Int)-1074 by omega)) obsB_nil) w
 ·have g1:=dF (show ¬(ex y:Int)-1074>(ex x:Int)-1074 by omega);by_cases h2:ex y=ex x
  ·have g2:=dT (show(ex y:Int)-1074=(ex x:Int)-1074 by omega);by_cases h3:mn x<mn y
   ·exact add_top x y up (Or.inr ⟨h2,by omega⟩) (obsB_yes (dT (show((mn y:Nat):Int)>((mn x:Nat):Int) by omega)) (obsB_yes g2 (obsB_yes g1 obsB_nil))) w
   ·exact add_eq x y up (Or.inr ⟨h2.symm,by omega⟩) (obsB_yes (dF (show ¬((mn y:Nat):Int)>((mn x:Nat):Int) by omega)) (obsB_yes g2 (obsB_yes g1 obsB_nil))) w
  ·have g2:=dF (show ¬(ex y:Int)-1074=(ex x:Int)-1074 by omega);exact add_low x y up (Or.inl (by omega)) (obsB_yes g2 (obsB_yes g1 obsB_nil)) w
def kTwo(f:Bool->F->F->F×Int):List SV->Dec->Option (SV×Dec×Obs)
 | [.fl x,.fl y,.b up],ds=>some (.tup [.fl (f up x y).1,.si .i64 (f up x y).2],ds,[])
 |_,_=>none
theorem two_ok{g:FuncId}{f:Bool->F->F->F×Int}(h:∀x y up w,Calls prog g #[.float .f64 x.b,.float .f64 y.b,.bool up] w fun e w'=>e= .returned (.tuple #[.float .f64 (f up x y).1.b,.int .i64 (f up x y).2])/\Below w.heap.size w w'):PlainOk prog g (kTwo f):=by
 intro args ds x ds' ob h1 ho;unfold kTwo at h1;split at h1
 ·rename_i x y up;simp only[sIz,pIz]at h1;obtain⟨rfl,_,_⟩:=h1;exact⟨[.float .f64 x.b,.float .f64 y.b,.bool up],_,rfl,rfl,fun w=>h x y up w⟩
 ·cases h1
def OGA(f:Bool->F->F->F×Int):OracleF:=lookO [(60,plainO oRight),(102,plainO (kTwo f))]
theorem oracleGA:OracleOk prog (OGA dAdd):= .cons rightG.of (.cons (two_ok add_F_w).of (.nil _))
theorem subRun0(f:Bool->F->F->F×Int)(x y:F)(up:Bool):valR ((run prog EG (OGA f) 100).1 98 [.fl x,.fl y,.b up] [] (some [false]))=some (.tup [.fl (f up x y).1,.si .i64 (f up x y).2],some [],[(!decide (y.k=(toF 0).k),false)]):=by kernel_rfl
theorem subRun1(f:Bool->F->F->F×Int)(x y:F)(up:Bool):valR ((run prog EG (OGA f) 100).1 98 [.fl x,.fl y,.b up] [] (some [true]))=some (.tup [.fl (f up x y.neg).1,.si .i64 (f up x y.neg).2],some [],[(!decide (y.k=0),true),(!decide (y.k=(toF 0).k),true)]):=by kernel_rfl
theorem sub_F_w(x y:F)(up:Bool)(w:World) :
  Calls prog 98 #[.float .f64 x.b,.float .f64 y.b,.bool up] w fun e w'=>e= .returned (.tuple #[.float .f64 (dSub up x y).1.b,.int .i64 (dSub up x y).2])/\Below w.heap.size w w':=by
 by_cases h:y.k=0
 ·rw[dSub_zero up x y h];exact calls_of_val goodG oracleGA 100 (subRun0 dAdd x y up) (ObsOk.of_B (obsB_yes (by rw[zero_k',h];rfl) obsB_nil)) rfl rfl w
 ·rw[dSub_neg];have e:(!decide (y.k=0))=true:=by simp[h]
  exact calls_of_val goodG oracleGA 100 (subRun1 dAdd x y up) (ObsOk.of_B (obsB_yes e (obsB_yes (by rw[zero_k'];exact e) obsB_nil))) rfl rfl w
def kMul(f g:Int->Int->Int)(u:Int->Bool):List SV->Dec->Option (SV×Dec×Obs)
 | [x, y], ds => match intS x, intS y with
   |some (.u64,a),some (.u64,b)=>some (.tup [.si .u64 (f a b),.si .u64 (g a b)],ds,[(u a,true),(u b,true)])
   |_,_=>none
 |_,_=>none
def mulH(a b:Int):Int:=hi (a.toNat*b.toNat)
def mulL(a b:Int):Int:=lo (a.toNat*b.toNat)
theorem mulG:PlainOk prog 155 (kMul mulH mulL u64B):=by
 intro args ds x ds' ob h ho;unfold kMul at h;split at h
 ·rename_i x y;split at h
  ·rename_i a b ha hb;simp only[sIz,pIz]at h;obtain⟨rfl,rfl,rfl⟩:=h;have k1:=u64_of (ho (u64B a,true) (by simp));have k2:=u64_of (ho (u64B b,true) (by simp));obtain⟨p,rfl⟩:=Int.eq_ofNat_of_zero_le k1.1;obtain⟨q,rfl⟩:=Int.eq_ofNat_of_zero_le k2.1;refine⟨[.int .u64 p,.int .u64 q],_,plains_cons (intS_plain ha) (plains_cons (intS_plain hb) plains_nil),rfl,fun w=>(Tryz.bits_Mul64 p q (by omega) (by omega) w).mono ?_⟩;rintro e w' ⟨rfl,rfl⟩;exact⟨rfl,Below.refl _ _⟩
  ·cases h
 ·cases h
def OGM(K:Kd)(f g:Int->Int->Int):OracleF:=lookO [(60,plainO oRight),(154,plainO (kParts K)),(156,plainO (kRound K)),(155,plainO (kMul f g K.u))]
theorem oracleGM:OracleOk prog (OGM KR mulH mulL):= .cons rightG.of (.cons partsG.of (.cons roundG.of (.cons mulG.of (.nil _))))
theorem mulRun(K:Kd)(f g:Int->Int->Int)(x y:F)(up p q:Bool):valR ((run prog EG (OGM K f g) 100).1 81 [.fl x,.fl y,.b up] [] (some [p,q]))=
  some (.tup [.fl (K.rF (p != q) (f (K.mn x) (K.mn y)) (g (K.mn x) (K.mn y)) false (IntKind.i64.wrap (K.ex x+K.ex y)) up),.si .i64 (K.rI (p != q) (f (K.mn x) (K.mn y)) (g (K.mn x) (K.mn y)) false (IntKind.i64.wrap (K.ex x+K.ex y)) up)],
   some [],rdK K (f (K.mn x) (K.mn y)) (g (K.mn x) (K.mn y)) (IntKind.i64.wrap (K.ex x+K.ex y))++ [(K.u (K.mn x),true),(K.u (K.mn y),true),(K.sg y,q),(K.sg x,p)]):=by cases p<;>cases q<;>kernel_rfl
theorem hi_u{n:Nat}(h:n<W128):u64B (hi n)=true:=u64_mk (hi_nonneg _) (hi_le _ h)
theorem lo_u(n:Nat):u64B (lo n)=true:=u64_mk (lo_nonneg _) (lo_le _)
theorem wn_back(n:Nat):wn (hi n) (lo n)=n:=by unfold wn hi lo;rw[tN,tN];omega
theorem mn_mul_lt(x y:F):mn x*mn y<W128:=by rw[W128_q];exact Nat.mul_lt_mul'' (by have:=mn_lt x;omega) (by have:=mn_lt y;omega)
theorem mul_F_w(x y:F)(up:Bool)(w:World) :
  Calls prog 81 #[.float .f64 x.b,.float .f64 y.b,.bool up] w fun e w'=>e= .returned (.tuple #[.float .f64 (dMul up x y).1.b,.int .i64 (dMul up x y).2])/\Below w.heap.size w w':=by
 have h1:=ex_le x;have h2:=ex_le y;have he:IntKind.i64.wrap ((ex x:Int)-1074+((ex y:Int)-1074))=(ex x:Int)-1074+((ex y:Int)-1074):=Bu.wrap_small (by omega) (by omega);have hH:mulH (KR.mn x) (KR.mn y)=hi (mn x*mn y):=by show hi ((mn x:Int).toNat*(mn y:Int).toNat)=_;rw[tN,tN]
 have hL:mulL (KR.mn x) (KR.mn y)=lo (mn x*mn y):=by show lo ((mn x:Int).toNat*(mn y:Int).toNat)=_;rw[tN,tN]
 have hr:=mulRun KR mulH mulL x y up (sg x) (sg y);rw[show IntKind.i64.wrap (KR.ex x+KR.ex y)=_ from he,hH,hL]at hr;have hv:rndG (sg x != sg y) (wn (hi (mn x*mn y)) (lo (mn x*mn y))) false ((ex x:Int)-1074+((ex y:Int)-1074)) up=dMul up x y:=by rw[wn_back,rndG_mul]
 rw[<-hv];refine calls_of_val goodG oracleGM 100 hr (ObsOk.of_B ?_) rfl rfl w;rw[obsB_app];have o1:obsB (rdK KR (hi (mn x*mn y)) (lo (mn x*mn y)) ((ex x:Int)-1074+((ex y:Int)-1074)))=true:=
  obsB_yes (hi_u (mn_mul_lt x y)) (obsB_yes (lo_u _) (obsB_yes (dT (by omega)) obsB_nil))
 have o2:obsB [(KR.u (KR.mn x),true),(KR.u (KR.mn y),true),(KR.sg y,sg y),(KR.sg x,sg x)]=true:=obsB_yes (mn_u64 x) (obsB_yes (mn_u64 y) (obsB_yes rfl (obsB_yes rfl obsB_nil)));rw[o1,o2];rfl
end Go.Proofs.YtejcekikbnlllaaGreat
namespace Bu
structure Kn (U u1 y y1 y0 q r:Nat):Prop where
 eq:q*y1+r=U
 lt:U*4294967296+u1<(q+1)*y
 le:q<=4294967297
 rl:r<4294967296
theorem kn_startB{U u1 y y1 b:Nat}(h1:0<y1)(hy:y1*b<=y)(hu:u1<b):U*b+u1<(U/y1+1)*y:=by
 have hd:=Nat.div_add_mod U y1;have hm:=Nat.mod_lt U h1;have:U+1<=(U/y1+1)*y1:=by rw[Nat.add_mul,Nat.mul_comm];omega
 have h3:(U+1)*b<=(U/y1+1)*y1*b:=Nat.mul_le_mul_right b this;have h4:(U/y1+1)*(y1*b)<=(U/y1+1)*y:=Nat.mul_le_mul_left _ hy;rw[Nat.mul_assoc,Nat.add_mul]at h3;omega
theorem kn_start{U u1 y y1 y0:Nat}(hy:y=y1*4294967296+y0)(h1:2147483648<=y1)(h2:y1<4294967296)(h0:y0<4294967296)(hU:U<y)(hu:u1<4294967296) :
  Kn U u1 y y1 y0 (U/y1) (U%y1):=by
 have hd:=Nat.div_add_mod U y1;have hm:=Nat.mod_lt U (show 0<y1 by omega);refine⟨by rw[Nat.mul_comm];exact hd,?_,?_,by omega⟩
 ·exact kn_startB (by omega) (by omega) hu
 ·have h5:U/y1<4294967298:=by rw[Nat.div_lt_iff_lt_mul (by omega)];omega
  omega
theorem kn_stay{U u1 y y1 y0 q r:Nat}(hy:y=y1*4294967296+y0)(h:Kn U u1 y y1 y0 q r)(hc:q*y0<=4294967296*r+u1):q=(U*4294967296+u1)/y:=by
 have hy0:0<y:=by
  have:=h.lt;by_cases c:0<y
  ·exact c
  ·have:y=0:=by omega
   subst this;omega
 symm
 rw[Nat.div_eq_iff hy0];have h1:=h.eq;have h2:=h.lt;have e:q*y=q*y1*4294967296+q*y0:=by rw[hy,Nat.mul_add,Nat.mul_assoc]
 have e2:U*4294967296=q*y1*4294967296+r*4294967296:=by rw[<-h1,Nat.add_mul]
 rw[Nat.add_mul,Nat.one_mul]at h2;omega
theorem kn_test{U u1 y y1 y0 q r:Nat}(hy:y=y1*4294967296+y0)(hU:U<y)(hu:u1<4294967296)(h:Kn U u1 y y1 y0 q r)(hc:4294967296<=q\/4294967296*r+u1<q*y0) :
  U*4294967296+u1<q*y:=by
 have h1:=h.eq;have e:q*y=q*y1*4294967296+q*y0:=by rw[hy,Nat.mul_add,Nat.mul_assoc]
 have e2:U*4294967296=q*y1*4294967296+r*4294967296:=by rw[<-h1,Nat.add_mul]
 rcases hc with c|c
 ·have:4294967296*y<=q*y:=Nat.mul_le_mul_right _ c;omega
 ·omega
theorem kn_pos{U u1 y y1 y0 q r:Nat}(hy:y=y1*4294967296+y0)(hU:U<y)(hu:u1<4294967296)(h:Kn U u1 y y1 y0 q r)(hc:4294967296<=q\/4294967296*r+u1<q*y0):1<=q:=by
 have:=kn_test hy hU hu h hc;by_cases c:q=0
 ·subst c;omega
 ·omega
theorem kn_next{U u1 y y1 y0 q r:Nat}(hy:y=y1*4294967296+y0)(hU:U<y)(hu:u1<4294967296)(h:Kn U u1 y y1 y0 q r)(hc:4294967296<=q\/4294967296*r+u1<q*y0)(hr:r+y1<4294967296) :
  Kn U u1 y y1 y0 (q-1) (r+y1):=by
 have h1:=h.eq;have hp:=kn_pos hy hU hu h hc;obtain⟨t,rfl⟩:∃t,q=t+1:=⟨q-1,by omega⟩;have hl:=h.le;refine⟨?_,?_,by omega,hr⟩
 ·rw[Nat.add_mul]at h1;simp only[Nat.add_sub_cancel];omega
 ·simp only[Nat.add_sub_cancel];exact kn_test hy hU hu h hc
theorem kn_break{U u1 y y1 y0 q r:Nat}(hy:y=y1*4294967296+y0)(h0:y0<4294967296)(hU:U<y)(hu:u1<4294967296)(h:Kn U u1 y y1 y0 q r)(hc:4294967296<=q\/4294967296*r+u1<q*y0)(hr:4294967296<=r+y1) :
  q-1=(U*4294967296+u1)/y:=by
 have h1:=h.eq;have hp:=kn_pos hy hU hu h hc;have ht:=kn_test hy hU hu h hc;obtain⟨t,rfl⟩:∃t,q=t+1:=⟨q-1,by omega⟩;have hl:=h.le;simp only[Nat.add_sub_cancel]
 symm
 rw[Nat.div_eq_iff (by omega)];have e:t*y=t*y1*4294967296+t*y0:=by rw[hy,Nat.mul_add,Nat.mul_assoc]
 have e2:U*4294967296=t*y1*4294967296+(r+y1)*4294967296:=by rw[<-h1,<-Nat.add_mul];grind
 have e3:t*y0<=4294967296*4294967295:=Nat.mul_le_mul (by omega) (by omega);rw[Nat.add_mul,Nat.one_mul]at ht;omega
theorem kn_norm{h l y s:Nat}(hs:s<=63)(hy:h<y)(hY:y*2^s<18446744073709551616)(hl:l<18446744073709551616) :
  (h*2^s+l/2^(64-s))*18446744073709551616+l*2^s%18446744073709551616=(h*18446744073709551616+l)*2^s
  /\h*2^s+l/2^(64-s)<y*2^s/\h*2^s<18446744073709551616/\l/2^(64-s)<2^s:=by
 obtain⟨a,b,c,d,e⟩:=up_parts h l s (by omega) hl;have hlt:h*2^s+2^s<=y*2^s:=by have:=Nat.mul_le_mul_right (2^s) (show h+1<=y by omega);rw[Nat.add_mul,Nat.one_mul]at this;exact this
 have hpos:=Nat.two_pow_pos s;rw[W128_eq]at a b;rw[Nat.mod_eq_of_lt (show h*2^s<18446744073709551616 by omega)]at a e;have hlim:(h*18446744073709551616+l)*2^s<340282366920938463463374607431768211456:=by
  have h1:h*18446744073709551616+l<(h+1)*18446744073709551616:=by omega
  have h2:=Nat.mul_lt_mul_of_pos_right h1 hpos;have h3:(h+1)*18446744073709551616*2^s=(h*2^s+2^s)*18446744073709551616:=by grind
  omega
 rw[Nat.mod_eq_of_lt hlim]at a b;refine⟨?_,by omega,by omega,d⟩;rw[<-a,<-b];exact Nat.div_add_mod' _ _
theorem kn_bothB{U u1 u0 y q1 q0 R b:Nat}(hy:0<y)(hU:U<y)(h1:u1<b)(h0:u0<b)(hq1:q1=(U*b+u1)/y)(hR:R=(U*b+u1)%y)(hq0:q0=(R*b+u0)/y) :
  q1*b+q0=(U*(b*b)+(u1*b+u0))/y/\(R*b+u0)%y=(U*(b*b)+(u1*b+u0))%y/\q1<b/\q0<b:=by
 have hd:=Nat.div_add_mod (U*b+u1) y;have hm:=Nat.mod_lt (U*b+u1) hy;rw[<-hq1,<-hR]at hd;rw[<-hR]at hm;have hd0:=Nat.div_add_mod (R*b+u0) y;have hm0:=Nat.mod_lt (R*b+u0) hy;rw[<-hq0]at hd0;have l1:U*b+u1<y*b:=by have:(U+1)*b<=y*b:=Nat.mul_le_mul_right _ (by omega);rw[Nat.add_mul]at this;omega
 have l0:R*b+u0<y*b:=by have:(R+1)*b<=y*b:=Nat.mul_le_mul_right _ (by omega);rw[Nat.add_mul]at this;omega
 generalize (R*b+u0)%y=r0 at*;have e:U*(b*b)+(u1*b+u0)=y*(q1*b+q0)+r0:=by
  have:U*(b*b)+(u1*b+u0)=(U*b+u1)*b+u0:=by grind
  rw[this,<-hd,Nat.add_mul,Nat.add_assoc,<-hd0];grind
 rw[e];refine⟨?_,?_,?_,?_⟩
 ·rw[Nat.mul_add_div hy,Nat.div_eq_of_lt hm0];omega
 ·rw[Nat.mul_add_mod,Nat.mod_eq_of_lt hm0]
 ·rw[hq1,Nat.div_lt_iff_lt_mul hy,Nat.mul_comm b];exact l1
 ·rw[hq0,Nat.div_lt_iff_lt_mul hy,Nat.mul_comm b];exact l0
theorem kn_both{U u1 u0 y q1 q0 R:Nat}(hy:0<y)(hU:U<y)(h1:u1<4294967296)(h0:u0<4294967296)(hq1:q1=(U*4294967296+u1)/y)(hR:R=(U*4294967296+u1)%y)(hq0:q0=(R*4294967296+u0)/y) :
  q1*4294967296+q0=(U*18446744073709551616+(u1*4294967296+u0))/y/\(R*4294967296+u0)%y=(U*18446744073709551616+(u1*4294967296+u0))%y/\q1<4294967296/\q0<4294967296:=
 kn_bothB hy hU h1 h0 hq1 hR hq0
open Go in
theorem kn_pack(h l y:Nat)(hy:h<y)(hy2:y<18446744073709551616)(hl:l<18446744073709551616):∃s Y U L y1 y0 u1 u0:Nat,
  64-blen y=s/\s<=63/\IntKind.u64.wrap ((y:Int)*2^s)=Y/\bits BinOp.or IntKind.u64 (IntKind.u64.wrap ((h:Int)*2^s)) ((l:Int)/2^(64-s))=U/\
  IntKind.u64.wrap ((l:Int)*2^s)=L/\(Y:Int)/4294967296=y1/\bits BinOp.and IntKind.u64 (Y:Int) 4294967295=y0/\(L:Int)/4294967296=u1/\bits BinOp.and IntKind.u64 (L:Int) 4294967295=u0/\
  Y=y1*4294967296+y0/\2147483648<=y1/\y1<4294967296/\y0<4294967296/\u1<4294967296/\u0<4294967296/\U<Y/\U*18446744073709551616+(u1*4294967296+u0)=(h*18446744073709551616+l)*2^s/\Y=y*2^s/\Y<18446744073709551616:=by
 have hb1:=lt_blen y;have hb2:blen y<=64:=blen_le hy2;have hy0:y≠0:=by omega
 have hb3:blen y=y.log2+1:=by unfold blen;rw[if_neg hy0]
 have hb4:=Nat.log2_self_le hy0;obtain⟨s,hs⟩:∃s,64-blen y=s:=⟨_,rfl⟩;have hs63:s<=63:=by omega
 have hpos:=Nat.two_pow_pos s;have hY1:y*2^s<18446744073709551616:=by have:=Nat.mul_lt_mul_of_pos_right hb1 hpos;rw[<-Nat.pow_add,show blen y+s=64 from by omega]at this;exact this
 have hY2:9223372036854775808<=y*2^s:=by have:=Nat.mul_le_mul_right (2^s) hb4;rw[<-Nat.pow_add,show y.log2+s=63 from by omega]at this;exact this
 obtain⟨n1,n2,n3,n4⟩:=kn_norm hs63 hy hY1 hl;have hmod:h*2^s%2^s=0:=Nat.mul_mod_left _ _;have a1:IntKind.u64.wrap ((y:Int)*2^s)=((y*2^s:Nat):Int):=by
  have e:(y:Int)*2^s=((y*2^s:Nat):Int):=by simp
  rw[e,IntKind.wrap_u64];omega
 have a2:IntKind.u64.wrap ((h:Int)*2^s)=((h*2^s:Nat):Int):=by
  have e:(h:Int)*2^s=((h*2^s:Nat):Int):=by simp
  rw[e,IntKind.wrap_u64];omega
 have a3:(l:Int)/2^(64-s)=((l/2^(64-s):Nat):Int):=by simp
 have a4:IntKind.u64.wrap ((l:Int)*2^s)=((l*2^s%18446744073709551616:Nat):Int):=by
  have e:(l:Int)*2^s=((l*2^s:Nat):Int):=by simp
  rw[e,IntKind.wrap_u64];omega
 have hLlt:l*2^s%18446744073709551616<18446744073709551616:=Nat.mod_lt _ (by omega);have hUlt:h*2^s+l/2^(64-s)<18446744073709551616:=by omega
 have hlq:l/2^(64-s)<18446744073709551616:=by omega
 have b2:bits BinOp.or IntKind.u64 ((h*2^s:Nat):Int) ((l/2^(64-s):Nat):Int)=((h*2^s+l/2^(64-s):Nat):Int):=by rw[u64_or_nat _ _ n3 hlq,nat_join s _ _ hmod n4]
 have mask:∀x:Nat,x<18446744073709551616->bits BinOp.and IntKind.u64 (x:Int) 4294967295=((x%4294967296:Nat):Int):=by intro x hx;have:=and_mask x 32 hx (by omega);exact this
 generalize h*2^s+l/2^(64-s)=U at*;generalize l*2^s%18446744073709551616=L at*;refine⟨s,y*2^s,U,L,y*2^s/4294967296,y*2^s%4294967296,L/4294967296,L%4294967296,hs,hs63,a1,by rw[a2,a3,b2],a4,by omega,mask _ hY1,by omega,mask _ hLlt,?_,?_,?_,?_,?_,?_,n2,?_,rfl,hY1⟩
 ·omega
 ·omega
 ·omega
 ·omega
 ·omega
 ·omega
 ·rw[<-n1];omega
theorem kn_final{h l y s Y U u1 u0 q1 R q0:Nat}(hy:0<y)(hY:Y=y*2^s)(hU:U<Y)(hD:U*18446744073709551616+(u1*4294967296+u0)=(h*18446744073709551616+l)*2^s)
  (h1:u1<4294967296) (h0:u0<4294967296) (hq1:q1=(U*4294967296+u1)/Y) (hR:R=(U*4294967296+u1)%Y) (hq0:q0=(R*4294967296+u0)/Y) :
  q1*4294967296+q0=(h*18446744073709551616+l)/y/\(R*4294967296+u0)%Y/2^s=(h*18446744073709551616+l)%y/\q1<4294967296/\q0<4294967296:=by
 have hpos:=Nat.two_pow_pos s;have hYp:0<Y:=by rw[hY];exact Nat.mul_pos hy hpos
 obtain⟨a,b,c,d⟩:=kn_both hYp hU h1 h0 hq1 hR hq0;refine⟨?_,?_,c,d⟩
 ·rw[a,hD,hY,Nat.mul_div_mul_right _ _ hpos]
 ·rw[b,hD,hY,Nat.mul_mod_mul_right,Nat.mul_div_cancel _ hpos]
end Bu
namespace Go.Proofs.YtejcekikbnlllaaGreat
open Go.RowKit Bu
theorem lz_w(n:Nat)(w:World)(h:(n:Int)<=18446744073709551615) :
  Calls prog 163 #[.int .u64 n] w fun e w'=>e= .returned (.int .i64 (64-(blen n:Int)))/\w=w':=
 (Tryz.bits_LeadingZeros64 n w (by omega) h).mono fun e w' ⟨h1,h2⟩=>⟨by rw[h1,tN,lib_blen n (by omega)],h2.symm⟩
set_option maxHeartbeats 1000000 in
theorem div64_zero(l y:Nat)(hy:0<(y:Int))(hl:(l:Int)<=18446744073709551615)(w:World) :
  Calls prog 219 #[.int .u64 0,.int .u64 l,.int .u64 y] w fun e w'=>e= .returned (.tuple #[.int .u64 ((l/y:Nat):Int),.int .u64 ((l%y:Nat):Int)])/\Below w.heap.size w w':=by
 have hy1:(1:Int)<=y:=by omega
 have T1:((y:Int)==0)=false:=by rw[beq_eq_false_iff_ne];omega
 have T2:¬((y:Int)<=0):=by omega
 have E1:IntKind.u64.wrap ((l:Int)/y)=((l/y:Nat):Int):=by have h:=Nat.div_le_self l y;rw[<-Int.natCast_ediv,IntKind.wrap_u64];generalize l/y=q at*;omega
 have H1:=Lib.hid E1;clear E1
 go_enter Tryz.func219,Tryz.ntmps219
 go_wp2
 go_quiet (fail)
 go_wp2
 go_ret2
 refine⟨ret_tup ?_,below_drewN (Below.refl _ _) _⟩;rw[<-H1.out,Int.natCast_emod];rfl
theorem val_u64{a:Int}{b:Nat}(h:a=b):Value.int .u64 a= .int .u64 b:=by rw[h]
theorem lz_s(n s:Nat)(hs:64-blen n=s)(w:World)(h:(n:Int)<=18446744073709551615) :
  Calls prog 163 #[.int .u64 n] w fun e w'=>e= .returned (.int .i64 s)/\w=w':=
 (lz_w n w h).mono fun e w' ⟨h1,h2⟩=>⟨by rw[h1];have:blen n<=64:=blen_le (by omega);exact ret_int (by omega),h2⟩
set_option maxHeartbeats 1000000 in
theorem div64_pos(h l y:Nat)(hh:0<(h:Int))(hy:(h:Int)<y)(hy2:(y:Int)<=18446744073709551615)(hl:(l:Int)<=18446744073709551615)(w:World) :
  Calls prog 219 #[.int .u64 h,.int .u64 l,.int .u64 y] w fun e w'=>e= .returned (.tuple #[.int .u64 (((h*18446744073709551616+l)/y:Nat):Int),.int .u64 (((h*18446744073709551616+l)%y:Nat):Int)])/\w=w':=by
 have T1:((y:Int)==0)=false:=by rw[beq_eq_false_iff_ne];omega
 have T3:((h:Int)==0)=false:=by rw[beq_eq_false_iff_ne];omega
 have T4:¬(y:Int)<=h:=by omega
 obtain⟨s,Y,U,L,y1,y0,u1,u0,g1,g2,e1,e2,e3,e4,e5,e6,e7,p1,p2,p3,p4,p5,p6,p7,p8,p9,p10⟩:=kn_pack h l y (by omega) (by omega) (by omega);have G1:=Lib.hid g1;have P1:=Lib.hid (show Y=y1*4294967296+y0/\y0<4294967296/\U<Y from⟨p1,p4,p7⟩);have P8:=Lib.hid p8;have P9:=Lib.hid p9;have i1:(2147483648:Int)<=y1:=by omega
 have i2:(y1:Int)<4294967296:=by omega
 have i3:(y0:Int)<4294967296:=by omega
 have i4:(u1:Int)<4294967296:=by omega
 have i5:(u0:Int)<4294967296:=by omega
 have i6:(U:Int)<Y:=by omega
 have i7:(Y:Int)<=18446744073709551615:=by omega
 have i8:(s:Int)<=63:=by omega
 have ks:=kn_start p1 p2 p3 p4 p7 p5;have z1:((y1:Int)==0)=false:=by rw[beq_eq_false_iff_ne];omega
 have f1:(U:Int)/y1=((U/y1:Nat):Int):=by simp
 generalize U/y1=qa at*;generalize U%y1=ra at*;have f2:(U:Int)-(qa:Int)*y1=ra:=by have:=ks.eq;rw[<-Int.natCast_mul];omega
 have f3:(0:Int)<=(qa:Int)*y1:=by rw[<-Int.natCast_mul];omega
 have f4:(qa:Int)*y1<=18446744073709551615:=by have:=ks.eq;rw[<-Int.natCast_mul];omega
 have f5:(qa:Int)<=4294967297:=by have:=ks.le;omega
 have f6:(ra:Int)<4294967296:=by have:=ks.rl;omega
 have KS:=Lib.hid ks;clear g1 p1 p2 p3 p4 p5 p6 p7 p8 p9 p10 g2 ks
 go_enter Tryz.func219,Tryz.ntmps219
 go_upto_block 0 with(go_at_call 163;refine(lz_s _ _ G1.out _ (by omega)).mono ?_;rintro e w' ⟨rfl,rfl⟩)
 go_cut [15,16] (fun q r wx=>q= .int .u64 (((U*4294967296+u1)/Y:Nat):Int)/\(∃t:Int,r= .int .u64 t)/\w=wx)
 case first=>
  go_wp2
  go_loop [15,16] (fun q r=>∃qn rn:Nat,Kn U u1 Y y1 y0 qn rn/\q= .int .u64 qn/\r= .int .u64 rn) (fun q _=>(intOf q).toNat)
  case atStart=>exact⟨qa,ra,KS.out,rfl,rfl⟩
  case round=>
   obtain⟨qn,rn,hk,rfl,rfl⟩:=hrel;have j1:=hk.le;have j2:=hk.rl;have v1:(qn:Int)<=4294967297:=by omega
   have v2:(rn:Int)<4294967296:=by omega
   have v3:(0:Int)<=(qn:Int)*y0:=by rw[<-Int.natCast_mul];omega
   have v4:(qn:Int)*y0<=18446744073709551615:=by have:=Nat.mul_le_mul (show qn<=4294967297 by omega) (show y0<=4294967295 by omega);rw[<-Int.natCast_mul];omega
   have KN:=Lib.hid hk;clear hk j1 j2;by_cases c1:(4294967296:Int)<=qn
   ·have hc:=Lib.hid (show 4294967296<=qn\/4294967296*rn+u1<qn*y0 from Or.inl (by omega));have hq1:(1:Int)<=qn:=by omega
    by_cases c3:(4294967296:Int)<=(rn:Int)+y1
    ·have hX:=Lib.hid (kn_break P1.out.1 P1.out.2.1 P1.out.2.2 (by omega) KN.out hc.out (by omega))
     go_wp2
     go_meet
     case rel=>exact⟨by rw[<-hX.out];exact val_u64 (by omega),⟨_,rfl⟩,rfl⟩
    ·have hX:=Lib.hid (kn_next P1.out.1 (by omega) (by omega) KN.out hc.out (show rn+y1<4294967296 by omega))
     go_wp2
     go_round
     case rel=>exact⟨qn-1,rn+y1,hX.out,val_u64 (by omega),val_u64 (by omega)⟩
     case measure=>simp[intOf];omega
   ·by_cases c2:(4294967296:Int)*rn+u1<(qn:Int)*y0
    ·have hc:=Lib.hid (show 4294967296<=qn\/4294967296*rn+u1<qn*y0 from Or.inr (by rw[<-Int.natCast_mul]at c2;omega));have hq1:(1:Int)<=qn:=by have:=kn_pos P1.out.1 (by omega) (by omega) KN.out hc.out;omega
     by_cases c3:(4294967296:Int)<=(rn:Int)+y1
     ·have hX:=Lib.hid (kn_break P1.out.1 P1.out.2.1 P1.out.2.2 (by omega) KN.out hc.out (by omega))
      go_wp2
      go_meet
      case rel=>exact⟨by rw[<-hX.out];exact val_u64 (by omega),⟨_,rfl⟩,rfl⟩
     ·have hX:=Lib.hid (kn_next P1.out.1 (by omega) (by omega) KN.out hc.out (show rn+y1<4294967296 by omega))
      go_wp2
      go_round
      case rel=>exact⟨qn-1,rn+y1,hX.out,val_u64 (by omega),val_u64 (by omega)⟩
      case measure=>simp[intOf];omega
    ·have hX:=Lib.hid (kn_stay P1.out.1 KN.out (by rw[<-Int.natCast_mul]at c2;omega))
     go_wp2
     go_meet
     case rel=>exact⟨by rw[<-hX.out],⟨_,rfl⟩,rfl⟩
 case rest=>
  obtain⟨rfl,⟨t,rfl⟩,rfl⟩:=hcut;have hYp:0<Y:=by omega
  have hdm:=Nat.div_add_mod (U*4294967296+u1) Y;have hml:=Nat.mod_lt (U*4294967296+u1) hYp;have HQ1:=Lib.hid (rfl:(U*4294967296+u1)/Y=(U*4294967296+u1)/Y);have HR1:=Lib.hid (rfl:(U*4294967296+u1)%Y=(U*4294967296+u1)%Y);obtain⟨q1,hq1⟩:∃q,q=(U*4294967296+u1)/Y:=⟨_,rfl⟩;obtain⟨R,hR⟩:∃q,q=(U*4294967296+u1)%Y:=⟨_,rfl⟩;rw[<-hq1,<-hR]at hdm;rw[<-hR]at hml;rw[<-hq1];have e21:IntKind.u64.wrap (IntKind.u64.wrap (IntKind.u64.wrap ((U:Int)*4294967296)+u1)-IntKind.u64.wrap ((q1:Int)*Y))=R:=by rw[<-Int.natCast_mul,Nat.mul_comm q1 Y];simp only[IntKind.wrap_u64];omega
  have kb:=kn_start P1.out.1 (by omega) (by omega) P1.out.2.1 hml (show u0<4294967296 by omega);have l1:(R:Int)/y1=((R/y1:Nat):Int):=by simp
  obtain⟨qb,hqb⟩:∃q,q=R/y1:=⟨_,rfl⟩;obtain⟨rb,hrb⟩:∃q,q=R%y1:=⟨_,rfl⟩;rw[<-hqb]at kb l1;rw[<-hrb]at kb;have l2:(R:Int)-(qb:Int)*y1=rb:=by have:=kb.eq;rw[<-Int.natCast_mul];omega
  have l3:(0:Int)<=(qb:Int)*y1:=by rw[<-Int.natCast_mul];omega
  have l4:(qb:Int)*y1<=18446744073709551615:=by have:=kb.eq;rw[<-Int.natCast_mul];omega
  have l5:(qb:Int)<=4294967297:=by have:=kb.le;omega
  have l6:(rb:Int)<4294967296:=by have:=kb.rl;omega
  have l7:(R:Int)<Y:=by omega
  have KB:=Lib.hid kb;have FQ1:=Lib.hid hq1;have FR:=Lib.hid hR;have P2:=Lib.hid (show Y=y1*4294967296+y0/\y0<4294967296/\R<Y from⟨P1.out.1,P1.out.2.1,hml⟩);clear f1 f2 f3 f4 f5 f6 KS kb hqb hrb hq1 hR hdm hml HQ1 HR1 P1;obtain⟨P1⟩:Nonempty (Hid (Y=y1*4294967296+y0/\y0<4294967296/\R<Y)):=⟨P2⟩
  go_upto_block 2 with fail
  go_cut [18,16] (fun q r wx=>q= .int .u64 (((R*4294967296+u0)/Y:Nat):Int)/\(∃t:Int,r= .int .u64 t)/\w=wx)
  case first=>
   go_wp2
   go_loop [18,16] (fun q r=>∃qn rn:Nat,Kn R u0 Y y1 y0 qn rn/\q= .int .u64 qn/\r= .int .u64 rn) (fun q _=>(intOf q).toNat)
   case atStart=>exact⟨qb,rb,KB.out,rfl,rfl⟩
   case round=>
    obtain⟨qn,rn,hk,rfl,rfl⟩:=hrel;have j1:=hk.le;have j2:=hk.rl;have v1:(qn:Int)<=4294967297:=by omega
    have v2:(rn:Int)<4294967296:=by omega
    have v3:(0:Int)<=(qn:Int)*y0:=by rw[<-Int.natCast_mul];omega
    have v4:(qn:Int)*y0<=18446744073709551615:=by have:=Nat.mul_le_mul (show qn<=4294967297 by omega) (show y0<=4294967295 by omega);rw[<-Int.natCast_mul];omega
    have KN:=Lib.hid hk;clear hk j1 j2;by_cases c1:(4294967296:Int)<=qn
    ·have hc:=Lib.hid (show 4294967296<=qn\/4294967296*rn+u0<qn*y0 from Or.inl (by omega));have hq1:(1:Int)<=qn:=by omega
     by_cases c3:(4294967296:Int)<=(rn:Int)+y1
     ·have hX:=Lib.hid (kn_break P1.out.1 P1.out.2.1 P1.out.2.2 (by omega) KN.out hc.out (by omega))
      go_wp2
      go_meet
      case rel=>exact⟨by rw[<-hX.out];exact val_u64 (by omega),⟨_,rfl⟩,rfl⟩
     ·have hX:=Lib.hid (kn_next P1.out.1 (by omega) (by omega) KN.out hc.out (show rn+y1<4294967296 by omega))
      go_wp2
      go_round
      case rel=>exact⟨qn-1,rn+y1,hX.out,val_u64 (by omega),val_u64 (by omega)⟩
      case measure=>simp[intOf];omega
    ·by_cases c2:(4294967296:Int)*rn+u0<(qn:Int)*y0
     ·have hc:=Lib.hid (show 4294967296<=qn\/4294967296*rn+u0<qn*y0 from Or.inr (by rw[<-Int.natCast_mul]at c2;omega));have hq1:(1:Int)<=qn:=by have:=kn_pos P1.out.1 (by omega) (by omega) KN.out hc.out;omega
      by_cases c3:(4294967296:Int)<=(rn:Int)+y1
      ·have hX:=Lib.hid (kn_break P1.out.1 P1.out.2.1 P1.out.2.2 (by omega) KN.out hc.out (by omega))
       go_wp2
       go_meet
       case rel=>exact⟨by rw[<-hX.out];exact val_u64 (by omega),⟨_,rfl⟩,rfl⟩
      ·have hX:=Lib.hid (kn_next P1.out.1 (by omega) (by omega) KN.out hc.out (show rn+y1<4294967296 by omega))
       go_wp2
       go_round
       case rel=>exact⟨qn-1,rn+y1,hX.out,val_u64 (by omega),val_u64 (by omega)⟩
       case measure=>simp[intOf];omega
     ·have hX:=Lib.hid (kn_stay P1.out.1 KN.out (by rw[<-Int.natCast_mul]at c2;omega))
      go_wp2
      go_meet
      case rel=>exact⟨by rw[<-hX.out],⟨_,rfl⟩,rfl⟩
  case rest=>
   obtain⟨rfl,⟨t,rfl⟩,rfl⟩:=hcut;have hdm:=Nat.div_add_mod (R*4294967296+u0) Y;have hml:=Nat.mod_lt (R*4294967296+u0) hYp;obtain⟨q0,hq0⟩:∃q,q=(R*4294967296+u0)/Y:=⟨_,rfl⟩;obtain⟨R0,hR0⟩:∃q,q=(R*4294967296+u0)%Y:=⟨_,rfl⟩;obtain⟨m1,m2,m3,m4⟩:=kn_final (show 0<y by omega) P9.out (show U<Y by omega) P8.out (show u1<4294967296 by omega) (show u0<4294967296 by omega) FQ1.out FR.out hq0;rw[<-hq0,<-hR0]at hdm;rw[<-hR0]at hml m2;rw[<-hq0];have e22:IntKind.u64.wrap (IntKind.u64.wrap (IntKind.u64.wrap ((R:Int)*4294967296)+u0)-IntKind.u64.wrap ((q0:Int)*Y))=R0:=by rw[<-Int.natCast_mul,Nat.mul_comm q0 Y];simp only[IntKind.wrap_u64];omega
   have n1:(q1:Int)<4294967296:=by omega
   have n2:(q0:Int)<4294967296:=by omega
   have M1:=Lib.hid (show(q1:Int)*4294967296+q0=(((h*18446744073709551616+l)/y:Nat):Int)from by rw[<-m1];omega);have M2:=Lib.hid (show(R0:Int)/2^s=(((h*18446744073709551616+l)%y:Nat):Int)from by rw[<-m2];simp);clear m1 m2 m3 m4 hdm hml hq0 hR0 l1 l2 l3 l4 l5 l6 KB
   go_wp2_with fail
   go_ret2
   refine⟨?_,rfl⟩;rw[<-M1.out,<-M2.out];exact ret_tup rfl
end Go.Proofs.YtejcekikbnlllaaGreat
namespace Go.Proofs.YtejcekikbnlllaaGreat
open Go.RowKit Bu Rx
def kLz(L:Int->Int)(u:Int->Bool):List SV->Dec->Option (SV×Dec×Obs)
 | [x], ds => match intS x with
   |some (.u64,a)=>some (.si .i64 (L a),ds,[(u a,true)])
   |_=>none
 |_,_=>none
def kDiv(q r:Int->Int->Int->Int)(c:Int->Int->Int->Bool):List SV->Dec->Option (SV×Dec×Obs)
 | [x, y, z], ds => match intS x, intS y, intS z with
   |some (.u64,h),some (.u64,l),some (.u64,y)=>some (.tup [.si .u64 (q h l y),.si .u64 (r h l y)],ds,[(c h l y,true)])
   |_,_,_=>none
 |_,_=>none
def lzI(a:Int):Int:=64-(blen a.toNat:Int)
def dqI(h l y:Int):Int:=((h.toNat*18446744073709551616+l.toNat)/y.toNat:Nat)
def drI(h l y:Int):Int:=((h.toNat*18446744073709551616+l.toNat)%y.toNat:Nat)
def dcI(h l y:Int):Bool:=decide (0<h/\h<y/\y<=18446744073709551615/\0<=l/\l<=18446744073709551615)
theorem lzG:PlainOk prog 163 (kLz lzI u64B):=by
 intro args ds x ds' ob h ho;unfold kLz at h;split at h
 ·rename_i x;split at h
  ·rename_i a ha;simp only[sIz,pIz]at h;obtain⟨rfl,rfl,rfl⟩:=h;have k1:=u64_of (ho (u64B a,true) (by simp));obtain⟨p,rfl⟩:=Int.eq_ofNat_of_zero_le k1.1;refine⟨[.int .u64 p],_,plains_cons (intS_plain ha) plains_nil,rfl,fun w=>(lz_w p w k1.2).mono ?_⟩;rintro e w' ⟨rfl,rfl⟩;exact⟨rfl,Below.refl _ _⟩
  ·cases h
 ·cases h
theorem divG:PlainOk prog 219 (kDiv dqI drI dcI):=by
 intro args ds x ds' ob h ho;unfold kDiv at h;split at h
 ·rename_i x y z;split at h
  ·rename_i a b c ha hb hc;simp only[sIz,pIz]at h;obtain⟨rfl,rfl,rfl⟩:=h;have k1:=oTz (ho (dcI a b c,true) (by simp));obtain⟨p,rfl⟩:=Int.eq_ofNat_of_zero_le (show 0<=a by omega);obtain⟨q,rfl⟩:=Int.eq_ofNat_of_zero_le (show 0<=b by omega);obtain⟨r,rfl⟩:=Int.eq_ofNat_of_zero_le (show 0<=c by omega);refine⟨[.int .u64 p,.int .u64 q,.int .u64 r],_,plains_cons (intS_plain ha) (plains_cons (intS_plain hb) (plains_cons (intS_plain hc) plains_nil)),rfl,fun w=>(div64_pos p q r k1.1 k1.2.1 k1.2.2.1 k1.2.2.2.2 w).mono ?_⟩;rintro e w' ⟨rfl,rfl⟩;exact⟨rfl,Below.refl _ _⟩
  ·cases h
 ·cases h
def OGD(K:Kd)(L:Int->Int)(q r:Int->Int->Int->Int)(c:Int->Int->Int->Bool):OracleF:=
 lookO [(60,plainO oRight),(154,plainO (kParts K)),(156,plainO (kRound K)),(163,plainO (kLz L K.u)),(219,plainO (kDiv q r c))]
theorem oracleGD:OracleOk prog (OGD KR lzI dqI drI dcI):= .cons rightG.of (.cons partsG.of (.cons roundG.of (.cons lzG.of (.cons divG.of (.nil _)))))
def nA(K:Kd)(L:Int->Int)(x:F):Int:=IntKind.u64.wrap (K.mn x*2^min (L (K.mn x)).toNat IntKind.u64.bits)
def nH(K:Kd)(L:Int->Int)(x:F):Int:=(nA K L x).fdiv (2^min (Int.toNat 1) IntKind.u64.bits)
def nL(K:Kd)(L:Int->Int)(x:F):Int:=IntKind.u64.wrap (nA K L x*2^min (Int.toNat 63) IntKind.u64.bits)
def nE(K:Kd)(L:Int->Int)(x y:F):Int:=IntKind.i64.wrap (IntKind.i64.wrap (IntKind.i64.wrap (K.ex x-L (K.mn x))-IntKind.i64.wrap (K.ex y-L (K.mn y)))-63)
def obD(K:Kd)(L:Int->Int)(q r:Int->Int->Int->Int)(c:Int->Int->Int->Bool)(x y:F)(s t d:Bool):Obs:=
 [(K.u 0,true),(K.u (q (nH K L x) (nL K L x) (nA K L y)),true),(K.re (nE K L x y),true),(decide (r (nH K L x) (nL K L x) (nA K L y) > 0),d),(c (nH K L x) (nL K L x) (nA K L y),true),
   (decide (0<=L (K.mn y)),true),(decide (0<=L (K.mn x)),true),(K.u (K.mn y),true),(K.u (K.mn x),true),(K.sg y,t),(K.sg x,s),(decide (x.k=(toF 0).k),false),(decide (y.k=(toF 0).k),false)]
theorem divRun(K:Kd)(L:Int->Int)(q r:Int->Int->Int->Int)(c:Int->Int->Int->Bool)(x y:F)(up s t d:Bool):valR ((run prog EG (OGD K L q r c) 100).1 141 [.fl x,.fl y,.b up] [] (some [false,false,s,t,d]))=
  some (.tup [.fl (K.rF (s != t) 0 (q (nH K L x) (nL K L x) (nA K L y)) d (nE K L x y) up),.si .i64 (K.rI (s != t) 0 (q (nH K L x) (nL K L x) (nA K L y)) d (nE K L x y) up)],some [],obD K L q r c x y s t d):=by
 cases s<;>cases t<;>cases d<;>kernel_rfl
theorem divRun0(K:Kd)(L:Int->Int)(q r:Int->Int->Int->Int)(c:Int->Int->Int->Bool)(x y:F)(up:Bool):valR ((run prog EG (OGD K L q r c) 100).1 141 [.fl x,.fl y,.b up] [] (some [true]))=
  some (.tup [.fl (toF 0),.i .i64 11],some [],[(decide (y.k=(toF 0).k),true)]):=by kernel_rfl
theorem divRunZ(K:Kd)(L:Int->Int)(q r:Int->Int->Int->Int)(c:Int->Int->Int->Bool)(x y:F)(up:Bool):valR ((run prog EG (OGD K L q r c) 100).1 141 [.fl x,.fl y,.b up] [] (some [false,true]))=
  some (.tup [.fl (toF 0),.i .i64 0],some [],[(decide (x.k=(toF 0).k),true),(decide (y.k=(toF 0).k),false)]):=by kernel_rfl
structure DivFacts (x y:F):Prop where
 lx:lzI (mn x)=nlz (mn x)
 a:nA KR lzI x=divM x
 b:nA KR lzI y=divM y
 h:nH KR lzI x=((divM x/2:Nat):Int)
 l:nL KR lzI x=((divM x*9223372036854775808%18446744073709551616:Nat):Int)
 e:nE KR lzI x y=divE x y
 r:-5000<=divE x y/\divE x y<=5000
theorem lzI_mn(x:F):lzI (mn x)=nlz (mn x):=by have:=blen_mn x;unfold lzI nlz;rw[tN];omega
theorem nA_eq{x:F}(h:x.k≠0):nA KR lzI x=divM x:=by
 have hb:=norm_bounds (mn_pos h) (mn_64 x);have e1:min (lzI (KR.mn x)).toNat IntKind.u64.bits=nlz (mn x):=by show min (lzI (mn x)).toNat 64=_;rw[lzI_mn,tN];exact Nat.min_eq_left (nlz_le _)
 unfold nA;rw[e1];show IntKind.u64.wrap ((mn x:Int)*2^nlz (mn x))=_;have e2:(mn x:Int)*2^nlz (mn x)=((divM x:Nat):Int):=by unfold divM;rw[Int.natCast_mul,Int.natCast_pow];rfl
 rw[e2,IntKind.wrap_u64];unfold divM;generalize mn x*2^nlz (mn x)=M at*;omega
theorem divFacts{x y:F}(hx:x.k≠0)(hy:y.k≠0):DivFacts x y:=by
 have h1:=ex_le x;have h2:=ex_le y;have h3:=nlz_le (mn x);have h4:=nlz_le (mn y);have hr:-5000<=divE x y/\divE x y<=5000:=by unfold divE;omega
 refine⟨lzI_mn x,nA_eq hx,nA_eq hy,?_,?_,?_,hr⟩
 ·unfold nH;rw[nA_eq hx];show((divM x:Nat):Int).fdiv 2=_;rw[Int.fdiv_eq_ediv_of_nonneg _ (by omega)];rfl
 ·unfold nL;rw[nA_eq hx,IntKind.wrap_u64];show((divM x:Nat):Int)*9223372036854775808%18446744073709551616=_;omega
 ·unfold nE;show IntKind.i64.wrap (IntKind.i64.wrap (IntKind.i64.wrap ((ex x:Int)-1074-lzI (mn x))-IntKind.i64.wrap ((ex y:Int)-1074-lzI (mn y)))-63)=_;rw[lzI_mn,lzI_mn];unfold divE;rw[Bu.wrap_small (n:=(ex x:Int)-1074-nlz (mn x)) (by omega) (by omega),Bu.wrap_small (n:=(ex y:Int)-1074-nlz (mn y)) (by omega) (by omega),Bu.wrap_small (n:=(ex x:Int)-1074-nlz (mn x)-_) (by omega) (by omega),Bu.wrap_small (by omega) (by omega)]
theorem toF_zero:toF 0=F.zero:=by decide+kernel
def qDiv(up:Bool)(a b:F):F×Int:=if b.k=0 then(F.zero,11)else dDiv up a b
theorem div_F_w(x y:F)(up:Bool)(w:World) :
  Calls prog 141 #[.float .f64 x.b,.float .f64 y.b,.bool up] w fun e w'=>e= .returned (.tuple #[.float .f64 (qDiv up x y).1.b,.int .i64 (qDiv up x y).2])/\Below w.heap.size w w':=by
 unfold qDiv;by_cases hy:y.k=0
 ·rw[if_pos hy,<-toF_zero];exact calls_of_val goodG oracleGD 100 (divRun0 KR lzI dqI drI dcI x y up) (ObsOk.of_B (obsB_yes (dT (by rw[zero_k'];exact hy)) obsB_nil)) rfl rfl w
 have oy:decide (y.k=(toF 0).k)=false:=dF (by rw[zero_k'];exact hy);rw[if_neg hy];by_cases hx:x.k=0
 ·rw[dDiv_zero up x y hx,<-toF_zero];exact calls_of_val goodG oracleGD 100 (divRunZ KR lzI dqI drI dcI x y up) (ObsOk.of_B (obsB_yes (dT (by rw[zero_k'];exact hx)) (obsB_yes oy obsB_nil))) rfl rfl w
 have ox:decide (x.k=(toF 0).k)=false:=dF (by rw[zero_k'];exact hx);have f:=divFacts hx hy;have nx:=norm_bounds (mn_pos hx) (mn_64 x);have ny:=norm_bounds (mn_pos hy) (mn_64 y);have hcat:=divM_eq (divM x);have hl:(divM x*9223372036854775808%18446744073709551616:Nat)<18446744073709551616:=Nat.mod_lt _ (by decide);have hq:dqI (nH KR lzI x) (nL KR lzI x) (nA KR lzI y)=((divM x*9223372036854775808/divM y:Nat):Int):=by rw[f.h,f.l,f.b];unfold dqI;rw[tN,tN,tN,hcat]
 have hr:drI (nH KR lzI x) (nL KR lzI x) (nA KR lzI y)=((divM x*9223372036854775808%divM y:Nat):Int):=by rw[f.h,f.l,f.b];unfold drI;rw[tN,tN,tN,hcat]
 have hc:dcI (nH KR lzI x) (nL KR lzI x) (nA KR lzI y)=true:=by rw[f.h,f.l,f.b];have k1:9223372036854775808<=divM x/\divM x<18446744073709551616:=nx;have k2:9223372036854775808<=divM y/\divM y<18446744073709551616:=ny;generalize divM x*9223372036854775808%18446744073709551616=l at*;unfold dcI;exact dT ⟨by omega,by omega,by omega,by omega,by omega⟩
 have hqb:((divM x*9223372036854775808/divM y:Nat):Int)<=18446744073709551615:=by
  have k1:9223372036854775808<=divM x/\divM x<18446744073709551616:=nx;have k2:9223372036854775808<=divM y/\divM y<18446744073709551616:=ny;have:divM x*9223372036854775808/divM y<18446744073709551616:=by rw[Nat.div_lt_iff_lt_mul (by omega)];generalize divM x=M at*;generalize divM y=N at*;omega
  omega
 have hd:decide (drI (nH KR lzI x) (nL KR lzI x) (nA KR lzI y)>0)=decide (0<divM x*9223372036854775808%divM y):=by rw[hr];generalize divM x*9223372036854775808%divM y=R;exact decide_eq_decide.2 (by omega)
 have hv:rndG (sg x != sg y) (wn 0 ((divM x*9223372036854775808/divM y:Nat):Int)) (decide (0<divM x*9223372036854775808%divM y)) (divE x y) up=dDiv up x y:=by rw[<-rndG_div up x y hx hy];unfold wn;rw[tN,Int.toNat_zero,Nat.zero_mul,Nat.zero_add]
 have hrun:=divRun KR lzI dqI drI dcI x y up (sg x) (sg y) (decide (0<divM x*9223372036854775808%divM y));rw[f.e,hq]at hrun;have ho:obsB (obD KR lzI dqI drI dcI x y (sg x) (sg y) (decide (0<divM x*9223372036854775808%divM y)))=true:=by
  unfold obD;rw[hq,f.e];refine obsB_yes u64_0 (obsB_yes (u64_mk (Int.natCast_nonneg _) hqb) (obsB_yes (dT f.r) (obsB_yes hd (obsB_yes hc (obsB_yes ?_ (obsB_yes ?_ (obsB_yes (mn_u64 y) (obsB_yes (mn_u64 x) (obsB_yes rfl (obsB_yes rfl (obsB_yes ox (obsB_yes oy obsB_nil))))))))))))
  ·exact dT (by show 0<=lzI (mn y);rw[lzI_mn];omega)
  ·exact dT (by show 0<=lzI (mn x);rw[lzI_mn];omega)
 rw[<-hv];exact calls_of_val goodG oracleGD 100 hrun (ObsOk.of_B ho) rfl rfl w
end Go.Proofs.YtejcekikbnlllaaGreat
namespace Bu
open Ieee
theorem signed_not(b:Bool)(m n:Nat):signed (!b) m n= -signed b m n:=by rw[signed_eq,signed_eq];cases b<;>simp
theorem sub_F(x y:F):double.sub x.b y.b=some (if x.z-y.z=0 then 0 else double.word (decide (x.z-y.z<0)) (min (near (x.z-y.z).natAbs 1) T)):=by
 unfold Format.sub;rw[read_F,read_F];simp only[Datum.opposite,Datum.sum,Option.map_some,Format.write];obtain⟨base,hbase⟩:∃b:Int,b=min (-1074+(pl x.k.natAbs:Int)) (-1074+(pl y.k.natAbs:Int)):=⟨_,rfl⟩;rw[<-hbase,signed_not];have s1:=signed_scale (decide (x.k<0)) (man x.k.natAbs) (-1074+(pl x.k.natAbs:Int)) base (by omega) (by omega);have s2:=signed_scale (decide (y.k<0)) (man y.k.natAbs) (-1074+(pl y.k.natAbs:Int)) base (by omega) (by omega);rw[show(-1074+(pl x.k.natAbs:Int)+1074).toNat=pl x.k.natAbs from by omega,<-nvZ_sign]at s1;rw[show(-1074+(pl y.k.natAbs:Int)+1074).toNat=pl y.k.natAbs from by omega,<-nvZ_sign]at s2;generalize signed (decide (x.k<0)) (man x.k.natAbs) (-1074+(pl x.k.natAbs:Int)-base).toNat=u at*;generalize signed (decide (y.k<0)) (man y.k.natAbs) (-1074+(pl y.k.natAbs:Int)-base).toNat=v at*;have hp:=Nat.two_pow_pos (base+1074).toNat;have hz:x.z-y.z=(u+ -v)*((2^(base+1074).toNat:Nat):Int):=by unfold F.z;rw[Int.add_mul,Int.neg_mul,s1,s2];omega
 have hpos:(0:Int)<((2^(base+1074).toNat:Nat):Int):=by omega
 have t1:x.z-y.z=0↔u+ -v=0:=by
  rw[hz];constructor
  ·intro h;rcases Int.mul_eq_zero.1 h with h|h
   ·exact h
   ·omega
  ·intro h;rw[h,Int.zero_mul]
 have t2:x.z-y.z<0↔u+ -v<0:=by rw[hz];have:=Int.mul_lt_mul_right (b:=u+ -v) (c:=0) hpos;rw[Int.zero_mul]at this;exact this
 by_cases h0:u+ -v=0
 ·rw[if_pos (t1.2 h0)];have hx0:(decide (x.k<0)&& !decide (y.k<0))=false:=by rw[Bool.and_eq_false_iff];have a1:=z_sign x;have a2:=z_sign y;have:=t1.2 h0;simp only[decide_eq_false_iff_not,Bool.not_eq_false',decide_eq_true_eq];omega
  rw[h0];simp[hx0,Format.nearest,Format.word]
 ·rw[if_neg (fun h=>h0 (t1.1 h)),if_neg h0,nearest_eq _ _ _ (by omega)];simp only[t2];have e:near ((u+ -v).natAbs*2^(base+1074).toNat) (2^(-(base+1074)).toNat)=near (x.z-y.z).natAbs 1:=by refine near_ratio (Nat.two_pow_pos _) (by omega) ?_;rw[hz,Int.natAbs_mul,Int.natAbs_natCast,show(-(base+1074)).toNat=0 from by omega]
  rw[e]
theorem near_le{n d r:Nat}(hd:0<d)(h:n<=nv r*d):near n d<=r:=by
 have h1:n/d<=nv r:=by
  have:=Nat.div_le_div_right (c:=d) h
  rwa [Nat.mul_div_cancel _ hd]at this
 have h2:fl (n/d)<=r:=by have:=fl_mono h1;rwa [fl_nv]at this
 by_cases c:fl (n/d)=r
 ·have h3:nv r<=n/d:=by rw[<-c];exact nv_fl_le _
  have h4:n=nv r*d:=by have:=Nat.le_div_iff_mul_le hd |>.1 h3;omega
  rw[near_exact hd h4];exact Nat.le_refl _
 ·unfold near;simp only;split
  ·omega
  ·split
   ·omega
   ·split<;>omega
theorem le_near{n d r:Nat}(hd:0<d)(h:nv r*d<=n):r<=near n d:=by
 have h1:nv r<=n/d:=(Nat.le_div_iff_mul_le hd).2 h;have h2:r<=fl (n/d):=by have:=fl_mono h1;rwa [fl_nv]at this
 unfold near;simp only;split
 ·exact h2
 ·split
  ·omega
  ·split<;>omega
theorem quot_le{m n A B more:Nat}(hn:n≠0)(h:m*2^A<=n*2^B)(hA:A<=B+more):(2*(m*2^more/n)+(m*2^more%n != 0).toNat)<=2^(1+more+B-A):=by
 obtain⟨c,hc⟩:∃c,B+more=A+c:=⟨B+more-A,by omega⟩;have e1:1+more+B-A=c+1:=by omega
 rw[e1,Nat.pow_succ];have hp:=Nat.two_pow_pos A;have h1:m*2^more<=n*2^c:=by
  have h2:m*2^A*2^more<=n*2^B*2^more:=Nat.mul_le_mul_right _ h;have e2:n*2^B*2^more=n*2^c*2^A:=by rw[Nat.mul_assoc,Nat.mul_assoc,<-Nat.pow_add,<-Nat.pow_add,hc,Nat.add_comm]
  have e3:m*2^A*2^more=m*2^more*2^A:=by rw[Nat.mul_right_comm]
  rw[e2,e3]at h2;exact Nat.le_of_mul_le_mul_right h2 hp
 have hd:=Nat.div_add_mod (m*2^more) n;have hr:=Nat.mod_lt (m*2^more) (Nat.pos_of_ne_zero hn);generalize m*2^more/n=Q at*;generalize m*2^more%n=R at*;generalize 2^c=C at*;have hQ:Q<=C:=by apply Nat.le_of_not_lt;intro g;have:=Nat.mul_le_mul_left n (show C+1<=Q from g);rw[Nat.mul_add]at this;omega
 by_cases hR:R=0
 ·subst hR;simp;omega
 ·have hs:(R != 0).toNat=1:=by simp[hR]
  rw[hs];have:Q≠C:=by intro e;subst e;omega
  omega
theorem div_le1{x y:F}(hx:0<x.k)(hy:0<y.k)(h:x.z<=y.z){r:Nat}(hr:nv r=S)(hT:r<T):∃t:F,double.div x.b y.b=some t.b/\0<=t.k/\t.k<=r:=by
 have m1:man x.k.natAbs≠0:=fun h=>by have:=man_zero _ h;omega
 have m2:man y.k.natAbs≠0:=fun h=>by have:=man_zero _ h;omega
 have hz:man x.k.natAbs*2^pl x.k.natAbs<=man y.k.natAbs*2^pl y.k.natAbs:=by have a:=z_natAbs x;have b:=z_natAbs y;have s1:=(z_sign x);have s2:=(z_sign y);omega
 unfold Format.div;rw[read_F,read_F];simp only[Datum.quotient,if_neg m2,Option.map_some,Format.write];rw[dF (show ¬x.k<0 by omega),dF (show ¬y.k<0 by omega)];generalize hmm:man x.k.natAbs=m at*;generalize hnn:man y.k.natAbs=n at*;generalize pl x.k.natAbs=A at*;generalize pl y.k.natAbs=B at*;obtain⟨more,hmo⟩:∃more,double.fractionBits+2+n.log2-m.log2=more:=⟨_,rfl⟩;rw[hmo,Nat.shiftLeft_eq];have hfb:double.fractionBits=52:=rfl;rw[hfb]at hmo;have l1:=Nat.log2_self_le m1;have l2:n<2^(n.log2+1):=Nat.lt_log2_self;have hAB:A+m.log2<n.log2+1+B:=by
  have h1:2^(A+m.log2)<=m*2^A:=by rw[Nat.pow_add,Nat.mul_comm];exact Nat.mul_le_mul_right _ l1
  have h2:n*2^B<2^(n.log2+1+B):=by rw[Nat.pow_add];exact Nat.mul_lt_mul_of_pos_right l2 (Nat.two_pow_pos B)
  exact(Nat.pow_lt_pow_iff_right (by omega)).1 (Nat.lt_of_le_of_lt h1 (Nat.lt_of_le_of_lt hz h2))
 have hA:A<=B+more:=by omega
 have hq:=quot_le m2 hz hA;have hne:2*(m*2^more/n)+(m*2^more%n != 0).toNat≠0:=by
  intro h0;have hd:=Nat.div_add_mod (m*2^more) n;have h1:m*2^more/n=0:=by omega
  have h2:(m*2^more%n != 0).toNat=0:=by omega
  have h3:m*2^more%n=0:=by
   by_cases c:m*2^more%n=0
   ·exact c
   ·simp[c]at h2
  rw[h1,h3]at hd;have:=Nat.mul_pos (Nat.pos_of_ne_zero m1) (Nat.two_pow_pos more);omega
 rw[nearest_eq _ _ _ hne];generalize 2*(m*2^more/n)+(m*2^more%n != 0).toNat=mag at*;have hn:near (mag*2^(-1074+(A:Int)-(-1074+(B:Int))-(more:Int)-1+1074).toNat) (2^(-(-1074+(A:Int)-(-1074+(B:Int))-(more:Int)-1+1074)).toNat)<=r:=by refine near_le (Nat.two_pow_pos _) ?_;obtain⟨sx,hs1,hs2⟩:=S_pow;rw[hr,hs2,<-Nat.pow_add];refine Nat.le_trans (Nat.mul_le_mul_right _ hq) ?_;rw[<-Nat.pow_add];exact Nat.pow_le_pow_right (by omega) (by omega)
 rw[Nat.min_eq_left (by omega),word_F _ _ (by omega) (by simp)];refine⟨_,rfl,?_⟩;have e:(if (false^^false)=true then -((near (mag*2^(-1074+(A:Int)-(-1074+(B:Int))-(more:Int)-1+1074).toNat) (2^(-(-1074+(A:Int)-(-1074+(B:Int))-(more:Int)-1+1074)).toNat):Nat):Int)else((near (mag*2^(-1074+(A:Int)-(-1074+(B:Int))-(more:Int)-1+1074).toNat) (2^(-(-1074+(A:Int)-(-1074+(B:Int))-(more:Int)-1+1074)).toNat):Nat):Int))=((near (mag*2^(-1074+(A:Int)-(-1074+(B:Int))-(more:Int)-1+1074).toNat) (2^(-(-1074+(A:Int)-(-1074+(B:Int))-(more:Int)-1+1074)).toNat):Nat):Int):=if_neg (by decide);rw[e,F.of_k (by omega)];omega
end Bu
namespace Bu
open Rx
structure I where
 lo:F
 hi:F
def I.zero:I:=⟨F.zero,F.zero⟩
def rt(a:I):Bool:=decide (a.lo.k<=a.hi.k)
def hasB(a:I)(x:F):Bool:=rt a&&decide (a.lo.k<=x.k)&&decide (x.k<=a.hi.k)
def askI(e:Int)(g:Bool)(r:I×Int):I×Int:=bif !(e==0)then(I.zero,e)else bif g then(bif !(r.2==0)then(I.zero,r.2)else(r.1,e))else(I.zero,20)
def endsI(l h:F×Int):I×Int:=bif !(l.2==0)then(I.zero,l.2)else(⟨l.1,h.1⟩,h.2)
def hullI(a b:I):I:=⟨mnF a.lo b.lo,mxF a.hi b.hi⟩
def oneI(f:Bool->F->F->F×Int)(x y:F):I×Int:=endsI (f false x y) (f true x y)
def thenI(r:I×Int)(g:I->I×Int):I×Int:=bif !(r.2==0)then(I.zero,r.2)else g r.1
def allI(f:Bool->F->F->F×Int)(a b:I):I×Int:=
 thenI (oneI f a.lo b.lo) fun p=>thenI (oneI f a.lo b.hi) fun q=>thenI (oneI f a.hi b.lo) fun r=>thenI (oneI f a.hi b.hi) fun s=>(hullI (hullI (hullI (hullI p p) q) r) s,0)
def turnI(a:I):I:=⟨a.hi.neg,a.lo.neg⟩
def bareI(a:I):I:=bif decide (0<=a.lo.k)then a else bif decide (a.hi.k<=0)then turnI a else⟨F.zero,mxF a.hi a.lo.neg⟩
def maxI(a b:I):I:=⟨mxF a.lo b.lo,mxF a.hi b.hi⟩
def cAdd(f:Bool->F->F->F×Int)(e:Int)(a b:I):I×Int:=askI e (rt a&&rt b) (endsI (f false a.lo b.lo) (f true a.hi b.hi))
def cSub(f:Bool->F->F->F×Int)(e:Int)(a b:I):I×Int:=askI e (rt a&&rt b) (endsI (f false a.lo b.hi) (f true a.hi b.lo))
def cMul(f:Bool->F->F->F×Int)(e:Int)(a b:I):I×Int:=askI e (rt a&&rt b) (allI f a b)
def cDiv(f:Bool->F->F->F×Int)(e:Int)(a b:I):I×Int:=askI e (rt a&&rt b) (bif hasB b F.zero then(I.zero,11)else allI f a b)
def cSqr(f:Bool->F->F->F×Int)(e:Int)(a:I):I×Int:=askI e (rt a) (endsI (f false (bareI a).lo (bareI a).lo) (f true (bareI a).hi (bareI a).hi))
def cSqrt(f:Bool->F->F×Int)(e:Int)(a:I):I×Int:=askI e (rt a) (endsI (f false a.lo) (f true a.hi))
def cNum(e:Int)(x:F):I×Int:=askI e true (⟨x,x⟩,0)
def cNeg(e:Int)(a:I):I×Int:=askI e (rt a) (turnI a,0)
def cMax(e:Int)(a b:I):I×Int:=askI e (rt a&&rt b) (maxI a b,0)
theorem F.zero_z:F.zero.z=0:=nvZ_zero
theorem F.zero_k:F.zero.k=0:=rfl
theorem F.neg_k(x:F):x.neg.k= -x.k:=rfl
theorem F.neg_zero:F.zero.neg=F.zero:=F.ext' (by rw[F.neg_k,F.zero_k];rfl)
theorem sub_zero_F(b:F):Ieee.double.sub F.zero.b b.b=some b.neg.b:=by
 rw[sub_F,F.zero_z,Int.zero_sub];by_cases h:b.k=0
 ·have e:b=F.zero:=F.ext' h;subst e;rw[if_pos (by rw[F.zero_z];rfl),F.neg_zero];rfl
 ·have hn:b.neg.k≠0:=by rw[F.neg_k];omega
  rw[<-F.neg_z,if_neg (fun k=>hn ((z_zero _).1 k))];congr 1;rw[z_natAbs',near_exact (r:=b.neg.k.natAbs) (by decide) (by omega)];have:=b.neg.hk;rw[show min b.neg.k.natAbs T=b.neg.k.natAbs from by omega,<-word_sign _ hn];congr 1;exact decide_eq_decide.2 (z_sign _)
end Bu
namespace Rx
open Go Bu
theorem den_si{m:Nms}{c:SV}{k:IntKind}{n:Int}(h:intS c=some (k,n)):den m c=some (.int k n):=den_plain (intS_plain h)
def takeR(j:Nat)(r:Option (SV×List Blk×Dec×Obs)):Option (SV×List Blk×Dec×Obs):=
 match r with
 |some (x,M,ds,ob)=>some (x,M.take j,ds,ob)
 |none=>none
theorem CallPost.take{m m':Nms}{w w':World}{M M1 M2:List Blk}{x x2:SV}{v u:Value}(h:CallPost m w M x M1 m' v w')(hM:MemAt m w M)
  (hl:M.length<=M2.length) (h2:∀(n:Nat)(b:Blk),M2[n]? =some b->∃b1 cv,M1[n]? =some b1/\b1.elem=b.elem/\b1.k=b.k/\plains b1.cells=some cv/\plains b.cells=some cv)
  (hx:plain x=some u) (hx2:plain x2=some u):CallPost m w M x2 M2 ⟨fun n=>if n<M2.length then m' n else none,m'.c⟩ v w':=by
 have hv:u=v:=by have:=den_plain (m:=m') hx;rw[h.val]at this;exact(Option.some.inj this).symm
 subst hv;have hm2:∀n r,(if n<M2.length then m' n else none)=some r->m' n=some r/\n<M2.length:=by
  intro n r hr;split at hr
  ·rename_i hlt;exact⟨hr,hlt⟩
  ·cases hr
 have hlv:∀n,liveM M2 n->liveM M1 n:=by rintro n ⟨b,hb,hbl⟩;obtain⟨b1,cv,e1,e2,ek,e3,e4⟩:=h2 n b hb;exact⟨b1,e1,by rw[Blk.live_eq ek];exact hbl⟩
 refine⟨⟨⟨?_,h.go.ext.c⟩,h.go.fr,?_,fun n r hr hn=>h.go.dd n r hr (hlv n hn)⟩,den_plain hx2,⟨⟨?_⟩,?_,?_,?_⟩,hl⟩
 ·intro n r hr;have hn:=hM.dom n r hr;show(if n<M2.length then m' n else none)=some r;rw[if_pos (by omega)];exact h.go.ext.n n r hr
 ·intro n r hr;exact h.go.new n r (hm2 n r hr).1
 ·intro i r h1;exact h.mem.ok.lt i r (hm2 i r h1).1
 ·intro i j r l1 l2 h1 h3;exact h.mem.inj i j r (hlv i l1) (hlv j l2) (hm2 i r h1).1 (hm2 j r h3).1
 ·intro n b hb;obtain⟨b1,cv,e1,e2,ek,e3,e4⟩:=h2 n b hb;obtain⟨r,hr,hat⟩:=h.mem.blk n b1 e1;have hn:n<M2.length:=by
   rcases Nat.lt_or_ge n M2.length with h'|h'
   ·exact h'
   ·rw[List.getElem?_eq_none h']at hb;cases hb
  refine⟨r,by show(if n<M2.length then m' n else none)=some r;rw[if_pos hn];exact hr,fun hbl=> ?_⟩;obtain⟨cv',sp,e5,e6,e8⟩:=hat (by rw[Blk.live_eq ek];exact hbl);have e7:=dens_plains (m:=m') e3;rw[e5]at e7;have e9:=Option.some.inj e7;subst e9;exact⟨cv',sp,dens_plains e4,by rw[<-e2,<-ek];exact e6,by rw[<-ek];exact kOk_ext e8 rfl fun _=>plains_ids e4⟩
 ·intro n r hr;exact(hm2 n r hr).2
def CalcAt(P:Program)(g:FuncId)(args:List SV)(t:Nat)(n:Int)(r:I×Int):Prop:=
 ∀m w vs,dens m (.p 0 0::args)=some vs->MemAt m w [⟨t,[.si .i64 n],.ex⟩]->
  Calls P g vs.toArray w fun e w'=>∃m' v,e= .returned v/\CallPost m w [⟨t,[.si .i64 n],.ex⟩] (.agg [.fl r.1.lo,.fl r.1.hi]) [⟨t,[.si .i64 r.2],.ex⟩] m' v w'
theorem calc_path{P:Program}{E:ExtF}{O:OracleF}(hP:Good P E)(hO:OracleOk P O){k:Nat}{g:FuncId}{args:List SV}{t:Nat}{n:Int}{ds ds':Dec}{x y:F}{c:SV}{e':Int}{ob:Obs}{r:I×Int}
  (h:takeR 1 ((run P E O k).1 g (.p 0 0::args) [⟨t,[.si .i64 n],.ex⟩] ds)=some (.agg [.fl x,.fl y],[⟨t,[c],.ex⟩],ds',ob)) (ho:obsB ob=true) (hr:r=(⟨x,y⟩,e')) (hc:plain c=some (.int .i64 e')):CalcAt P g args t n r:=by
 intro m w vs hvs hM;unfold takeR at h;split at h
 ·rename_i x1 M1 d1 o1 hrun;simp only[sIz,pIz]at h;obtain⟨rfl,hM1,rfl,rfl⟩:=h;refine Calls.mono ((run_ok hP hO k).1 g _ _ _ _ _ _ _ hrun (ObsOk.of_B ho) m w vs hvs hM) fun e w' ⟨m',v,he,hp⟩=> ?_;subst hr;have h0:M1[0]? =some ⟨t,[c],.ex⟩:=by
   have:=congrArg (fun l=>l[0]?) hM1
   simpa using this
  have key:=hp.take (M2:=[⟨t,[.si .i64 e'],.ex⟩]) (x2:= .agg [.fl x,.fl y]) hM (Nat.le_refl _) (fun j b hb=> ?_) rfl rfl
  ·exact⟨_,v,he,key⟩
  have hj:j=0:=by
   rcases Nat.lt_or_ge j 1 with h'|h'
   ·omega
   ·rw[List.getElem?_eq_none (by simpa using h')]at hb;cases hb
  subst hj;simp only[List.getElem?_cons_zero,sIz]at hb;subst hb;exact⟨_,[.int .i64 e'],h0,rfl,rfl,plains_cons hc plains_nil,rfl⟩
 ·cases h
theorem live_one(t:Nat)(x y:SV):liveM [⟨t,[x],.ex⟩]=liveM [⟨t,[y],.ex⟩]:=by
 have k:∀(x y:SV)n,liveM [⟨t,[x],.ex⟩] n->liveM [⟨t,[y],.ex⟩] n:=by
  rintro x y n ⟨b,hb,hl⟩;have hn:n=0:=by
   rcases Nat.lt_or_ge n 1 with h'|h'
   ·omega
   ·rw[List.getElem?_eq_none (by simpa using h')]at hb;cases hb
  subst hn;exact⟨_,rfl,rfl⟩
 exact funext fun n=>propext ⟨k x y n,k y x n⟩
def kC(op:List SV->Option (Int->I×Int)):OF:=fun args M ds=>
 match args,M with
 | .p 0 0 :: l, [⟨t, [c], .ex⟩] => match op l, intS c with
   |some f,some (.i64,n)=>some (.agg [.fl (f n).1.lo,.fl (f n).1.hi],[⟨t,[.si .i64 (f n).2],.ex⟩],ds,[])
   |_,_=>none
 |_,_=>none
theorem ofCalc{P:Program}{g:FuncId}{op:List SV->Option (Int->I×Int)}(h:∀l f,op l=some f->∀t n,CalcAt P g l t n (f n)):OfOk P g (kC op):=by
 intro args M ds x M' ds' ob hk ho m w vs hvs hM;unfold kC at hk;split at hk
 ·rename_i l t c;split at hk
  ·rename_i f n hf hc;simp only[sIz,pIz]at hk;obtain⟨rfl,rfl,_,_⟩:=hk;have hM2:MemAt m w [⟨t,[.si .i64 n],.ex⟩]:=by
    refine⟨hM.ok,by rw[live_one t (.si .i64 n) c];exact hM.inj,fun j b hb=> ?_,hM.dom⟩;have hj:j=0:=by
     rcases Nat.lt_or_ge j 1 with h'|h'
     ·omega
     ·rw[List.getElem?_eq_none (by simpa using h')]at hb;cases hb
    subst hj;simp only[List.getElem?_cons_zero,sIz]at hb;subst hb;obtain⟨r,hr,hat⟩:=hM.blk 0 _ rfl;obtain⟨cv,h1,h2⟩:=hat.ex;refine⟨r,hr,BlkAt.mk_ex (cv:=cv) ?_ h2⟩;rw[<-h1];simp only[dens,den_si hc,den]
   refine Calls.mono (h l f hf t n m w vs hvs hM2) fun e w' ⟨m',v,he,hp⟩=>⟨m',v,he,⟨by unfold Goes;rw[live_one t c (.si .i64 n)];exact hp.go,hp.val,hp.mem,hp.len⟩⟩
  ·cases hk
 ·cases hk
def aI(op:Int->I->I×Int):List SV->Option (Int->I×Int)
 | [.agg [.fl a,.fl b]]=>some fun n=>op n ⟨a,b⟩
 |_=>none
def aII(op:Int->I->I->I×Int):List SV->Option (Int->I×Int)
 | [.agg [.fl a,.fl b],.agg [.fl c,.fl d]]=>some fun n=>op n ⟨a,b⟩ ⟨c,d⟩
 |_=>none
def aF(op:Int->F->I×Int):List SV->Option (Int->I×Int)
 | [.fl a]=>some fun n=>op n a
 |_=>none
theorem ofI{P:Program}{g:FuncId}{op:Int->I->I×Int}(h:∀a b t n,CalcAt P g [.agg [.fl a,.fl b]] t n (op n ⟨a,b⟩)):OfOk P g (kC (aI op)):=by
 refine ofCalc fun l f hf=> ?_;unfold aI at hf;split at hf
 ·simp only[sIz]at hf;subst hf;exact h _ _
 ·cases hf
theorem ofII{P:Program}{g:FuncId}{op:Int->I->I->I×Int}(h:∀a b c d t n,CalcAt P g [.agg [.fl a,.fl b],.agg [.fl c,.fl d]] t n (op n ⟨a,b⟩ ⟨c,d⟩)):OfOk P g (kC (aII op)):=by
 refine ofCalc fun l f hf=> ?_;unfold aII at hf;split at hf
 ·simp only[sIz]at hf;subst hf;exact h _ _ _ _
 ·cases hf
theorem ofF{P:Program}{g:FuncId}{op:Int->F->I×Int}(h:∀a t n,CalcAt P g [.fl a] t n (op n a)):OfOk P g (kC (aF op)):=by
 refine ofCalc fun l f hf=> ?_;unfold aF at hf;split at hf
 ·simp only[sIz]at hf;subst hf;exact h _
 ·cases hf
def oRt:List SV->Dec->Option (SV×Dec×Obs)
 | [.agg [.fl a,.fl b]],ds=>(takeB ds (rt ⟨a,b⟩)).map fun r=>(.b r.1,r.2.1,r.2.2)
 |_,_=>none
def oHas:List SV->Dec->Option (SV×Dec×Obs)
 | [.agg [.fl a,.fl b],.fl x],ds=>(takeB ds (hasB ⟨a,b⟩ x)).map fun r=>(.b r.1,r.2.1,r.2.2)
 |_,_=>none
def oI1(f:I->I):List SV->Dec->Option (SV×Dec×Obs)
 | [.agg [.fl a,.fl b]],ds=>some (.agg [.fl (f ⟨a,b⟩).lo,.fl (f ⟨a,b⟩).hi],ds,[])
 |_,_=>none
def oI2(f:I->I->I):List SV->Dec->Option (SV×Dec×Obs)
 | [.agg [.fl a,.fl b],.agg [.fl c,.fl d]],ds=>some (.agg [.fl (f ⟨a,b⟩ ⟨c,d⟩).lo,.fl (f ⟨a,b⟩ ⟨c,d⟩).hi],ds,[])
 |_,_=>none
end Rx
namespace Bu
open Rx Go
structure Kt where
 add:Int->I->I->I×Int
 sub:Int->I->I->I×Int
 mul:Int->I->I->I×Int
 div:Int->I->I->I×Int
 sqr:Int->I->I×Int
 neg:Int->I->I×Int
 num:Int->F->I×Int
 nx:F->Bool->F×Int
def one64:F:=toF 4607182418800017408
def mone64:F:=toF 13830554455654793216
def pi64:F:=toF 4614256656552045848
def byM(K:Kt)(y:I)(d:F)(e:Int):I×Int:=K.div (K.num e d).2 y (K.num e d).1
def stepM(K:Kt)(y one:I)(d:F)(p:I×Int):I×Int:=
 K.sub (K.mul (byM K y d p.2).2 (byM K y d p.2).1 p.1).2 one (K.mul (byM K y d p.2).2 (byM K y d p.2).1 p.1).1
def loopM(K:Kt)(y one:I):List F->I×Int->I×Int
 | [],p=>p
 |d::l,p=>loopM K y one l (stepM K y one d p)
def rowB(K:Kt)(y one:I)(l:List F)(q:I×Int):I×Int:=loopM K y one l (⟨q.1.lo,one64⟩,q.2)
def rowA(K:Kt)(y one:I)(d:F)(l:List F)(e:Int):I×Int:=rowB K y one l (K.sub (byM K y d e).2 one (byM K y d e).1)
def rowM(K:Kt)(d:F)(l:List F)(e:Int)(t:I):I×Int:=rowA K (K.sqr e t).1 (K.num (K.sqr e t).2 one64).1 d l (K.num (K.sqr e t).2 one64).2
@[irreducible] def row20(K:Kt)(e:Int)(t:I):I×Int:=
 rowM K (toF 4646096334330265600) [toF 4644724143818801152,toF 4643492690795692032,toF 4641592734702895104,toF 4639692778610098176,toF 4637440978796412928,toF 4634766966517661696,toF 4631107791820423168,toF 4626322717216342016,toF 4618441417868443648] e t
@[irreducible] def row19(K:Kt)(e:Int)(t:I):I×Int:=
 rowM K (toF 4645392646888488960) [toF 4644090825121202176,toF 4642648265865560064,toF 4640607572284407808,toF 4638848353679966208,toF 4636033603912859648,toF 4633078116657397760,toF 4629137466983448576,toF 4622945017495814144,toF 4611686018427387904] e t
def withI(a:I):I:=bif decide ((mnF a.hi one64).k<(mxF a.lo mone64).k)then I.zero else⟨mxF a.lo mone64,mnF a.hi one64⟩
structure Kr where
 r20:Int->I->I×Int
 r19:Int->I->I×Int
def kNx(f:F->Bool->F×Int):List SV->Dec->Option (SV×Dec×Obs)
 | [.fl x,.b up],ds=>some (.tup [.fl (f x up).1,.si .i64 (f x up).2],ds,[])
 |_,_=>none
def aRow(R:Kr):List SV->Option (Int->I×Int)
 | [.agg [.fl a,.fl b],.i .i64 (.ofNat m)]=>if Nat.beq m 20=true then some (fun n=>R.r20 n ⟨a,b⟩)else if Nat.beq m 19=true then some (fun n=>R.r19 n ⟨a,b⟩)else none
 |_=>none
def pDiv(up:Bool)(a b:F):F×Int:=if b.k=0 then(F.zero,11)else dDiv up a b
def KTR:Kt where
 add:=cAdd dAdd
 sub:=cSub dSub
 mul:=cMul dMul
 div:=cDiv pDiv
 sqr:=cSqr dMul
 neg:=cNeg
 num:=cNum
 nx:=nextF
def KRR:Kr:=⟨row20 KTR,row19 KTR⟩
def atT(K:Kt)(q x:F):I×Int:=
 let pi:I:=⟨pi64,(K.nx pi64 true).1⟩
 let a:=K.add 0 pi pi
 let b:=K.num a.2 x
 let c:=K.num b.2 q
 let d:=K.sub c.2 b.1 c.1
 K.mul d.2 a.1 d.1
def atS(K:Kt)(R:Kr)(q x:F):I×Int:=
 let t:=atT K q x
 let r:=R.r20 t.2 t.1
 K.mul r.2 t.1 r.1
def atC(K:Kt)(R:Kr)(q x:F):I×Int:=
 let t:=atT K q x
 let s:=atS K R q x
 R.r19 s.2 t.1
@[irreducible] def atP(K:Kt)(R:Kr)(W:I->I)(j:Nat)(q x:F):I×I:=
 let S:=atS K R q x
 let C:=atC K R q x
 match j with
 |0=>(W S.1,W C.1)
 |1=>(W C.1,W (K.neg C.2 S.1).1)
 |2=>(W (K.neg C.2 S.1).1,W (K.neg (K.neg C.2 S.1).2 C.1).1)
 |_=>(W (K.neg C.2 C.1).1,W S.1)
def c1:F:=toF 4593671619917905920
def c3:F:=toF 4600427019358961664
def c5:F:=toF 4603804719079489536
def c7:F:=toF 4606056518893174784
def q1:F:=toF 4598175219545276416
def q2:F:=toF 4602678819172646912
def q3:F:=toF 4604930618986332160
def atM(K:Kt)(R:Kr)(W:I->I)(x:F):I×I:=
 bif decide (x.k<c5.k)then(bif decide (x.k<c3.k)then(bif decide (x.k<c1.k)then atP K R W 0 (toF 0) x else atP K R W 1 q1 x)else atP K R W 2 q2 x)
 else(bif decide (x.k<c7.k)then atP K R W 3 q3 x else atP K R W 0 one64 x)
@[irreducible] def atR:F->I×I:=atM KTR KRR withI
def kAt(f:F->I×I):List SV->Dec->Option (SV×Dec×Obs)
 | [.fl x],ds=>some (.agg [.fl (f x).1.lo,.fl (f x).1.hi,.fl (f x).2.lo,.fl (f x).2.hi],ds,[])
 |_,_=>none
def oneI64:I:=⟨one64,one64⟩
def moneI:I:=⟨mone64,mone64⟩
def topM(h:Bool)(a b:I):I:=bif h then hullI a b else a
def sinT(f:F->I×I)(h1 h3:Bool)(a b:F):I:=topM h3 (topM h1 (hullI (f a).1 (f b).1) oneI64) moneI
def cosT(f:F->I×I)(h2:Bool)(a b:F):I:=topM h2 (hullI (f a).2 (f b).2) moneI
def sinM(f:F->I×I)(a b:F):I:=sinT f (hasB ⟨a,b⟩ q1) (hasB ⟨a,b⟩ q3) a b
def cosM(f:F->I×I)(a b:F):I:=cosT f (hasB ⟨a,b⟩ q2) a b
def inB(a b:F):Bool:=rt ⟨a,b⟩&&decide ((toF 0).k<=a.k)&&decide (b.k<=one64.k)
def sameW(a b:F):Bool:=decide ((a.b:Int)=(b.b:Int))
def sameI(a b:I):Bool:=sameW a.lo b.lo&&sameW a.hi b.hi
def exactB(f:F->I×I)(x s c:F):Bool:=inB x x&&sameI (sinM f x x) ⟨s,s⟩&&sameI (cosM f x x) ⟨c,c⟩
def kBI(p:I->Bool):List SV->Dec->Option (SV×Dec×Obs)
 | [.agg [.fl a,.fl b]],ds=>(takeB ds (p ⟨a,b⟩)).map fun r=>(.b r.1,r.2.1,r.2.2)
 |_,_=>none
def kBII(p:I->I->Bool):List SV->Dec->Option (SV×Dec×Obs)
 | [.agg [.fl a,.fl b],.agg [.fl c,.fl d]],ds=>(takeB ds (p ⟨a,b⟩ ⟨c,d⟩)).map fun r=>(.b r.1,r.2.1,r.2.2)
 |_,_=>none
def kSC(p:I->Bool)(s c:I->I):List SV->Dec->Option (SV×Dec×Obs)
 | [.agg [.fl a,.fl b]],ds=>(takeB ds (p ⟨a,b⟩)).map fun r=>(bif r.1 then .tup [.agg [.fl (s ⟨a,b⟩).lo,.fl (s ⟨a,b⟩).hi],.agg [.fl (c ⟨a,b⟩).lo,.fl (c ⟨a,b⟩).hi],.i .i64 0]else .tup [.agg [.fl F.zero,.fl F.zero],.agg [.fl F.zero,.fl F.zero],.i .i64 2],r.2.1,r.2.2)
 |_,_=>none
structure Ns where
 ib:I->Bool
 si:I->I
 co:I->I
 ex:F->F->F->Bool
 ha:I->F->Bool
 sa:I->I->Bool
def oSC(f:F->I×I):List SV->Dec->Option (SV×Dec×Obs)
 | [.agg [.fl a,.fl b]],ds=>(takeB ds (inB a b)).map fun r=>(bif r.1 then .tup [.agg [.fl (sinM f a b).lo,.fl (sinM f a b).hi],.agg [.fl (cosM f a b).lo,.fl (cosM f a b).hi],.i .i64 0]else .tup [.agg [.fl F.zero,.fl F.zero],.agg [.fl F.zero,.fl F.zero],.i .i64 2],r.2.1,r.2.2)
 |_,_=>none
def NR(f:F->I×I):Ns:=⟨fun u=>inB u.lo u.hi,fun u=>sinM f u.lo u.hi,fun u=>cosM f u.lo u.hi,exactB f,hasB,sameI⟩
theorem one64_k:one64.k=4607182418800017408:=by decide+kernel
theorem mone64_k:mone64.k= -4607182418800017408:=by decide+kernel
structure In1 (a:I):Prop where
 lo:mone64.k<=a.lo.k
 hi:a.hi.k<=one64.k
 rt:a.lo.k<=a.hi.k
theorem mnF_k(a b:F):(mnF a b).k=min a.k b.k:=by unfold mnF;split<;>omega
theorem mxF_k(a b:F):(mxF a b).k=max a.k b.k:=by unfold mxF;split<;>omega
theorem withI_in(a:I):In1 (withI a):=by
 have h1:=one64_k;have h2:=mone64_k;unfold withI;cases h:decide ((mnF a.hi one64).k<(mxF a.lo mone64).k)
 ·have h3:=of_decide_eq_false h;rw[cF];refine⟨?_,?_,by simp only;omega⟩
  ·simp only[mxF_k];omega
  ·simp only[mnF_k];omega
 ·rw[cT];refine⟨?_,?_,Int.le_refl _⟩
  ·show mone64.k<=0;omega
  ·show(0:Int)<=one64.k;omega
theorem atP_W{K:Kt}{R:Kr}{W:I->I}{j:Nat}{q x:F}:(∃a,(atP K R W j q x).1=W a)/\∃a,(atP K R W j q x).2=W a:=by
 unfold atP
 dsimp only
 split<;>exact⟨⟨_,rfl⟩,⟨_,rfl⟩⟩
theorem atM_W{K:Kt}{R:Kr}{W:I->I}{x:F}:(∃a,(atM K R W x).1=W a)/\∃a,(atM K R W x).2=W a:=by
 unfold atM;cases decide (x.k<c5.k)
 ·cases decide (x.k<c7.k)<;>exact atP_W
 ·cases decide (x.k<c3.k)
  ·exact atP_W
  ·cases decide (x.k<c1.k)<;>exact atP_W
theorem atR_in(x:F):In1 (atR x).1/\In1 (atR x).2:=by unfold atR;obtain⟨⟨a,ha⟩,⟨b,hb⟩⟩:=atM_W (K:=KTR) (R:=KRR) (W:=withI) (x:=x);rw[ha,hb];exact⟨withI_in a,withI_in b⟩
theorem hull_in{a b:I}(ha:In1 a)(hb:In1 b):In1 (hullI a b):=by have h1:=ha.lo;have h2:=ha.hi;have h3:=ha.rt;have k1:=hb.lo;have k2:=hb.hi;have k3:=hb.rt;refine⟨?_,?_,?_⟩<;>simp only[hullI,mnF_k,mxF_k]<;>omega
theorem one_in:In1 oneI64:=⟨by rw[mone64_k];show _<=one64.k;rw[one64_k];omega,Int.le_refl _,Int.le_refl _⟩
theorem mone_in:In1 moneI:=⟨Int.le_refl _,by rw[one64_k];show mone64.k<=_;rw[mone64_k];omega,Int.le_refl _⟩
theorem top_in{h:Bool}{a b:I}(ha:In1 a)(hb:In1 b):In1 (topM h a b):=by
 cases h
 ·exact ha
 ·exact hull_in ha hb
theorem sinM_in(a b:F):In1 (sinM atR a b):=top_in (top_in (hull_in (atR_in a).1 (atR_in b).1) one_in) mone_in
theorem cosM_in(a b:F):In1 (cosM atR a b):=top_in (hull_in (atR_in a).2 (atR_in b).2) mone_in
end Bu
