/- Package ival by the reckoner: the methods of Calc (written by gencalc.py). Numbers as .. -/
import Derived.Test.YtejcekikbnlllaaGreatU06
set_option linter.all false
set_option maxRecDepth 100000
open Go.Proofs.Tryz(prog)
namespace Go.Proofs.YtejcekikbnlllaaGreat
open Go.RowKit Bu Rx
theorem toF0:toF 0=F.zero:=F.ext' zero_k'
def OIR:OracleF:=lookO [(60,plainO oRight)]
theorem oracleIR:OracleOk prog OIR:= .cons rightG.of (.nil _)
theorem irightRun(a b:F)(d:Bool):valR ((run prog EG OIR 60).1 67 [.agg [.fl a,.fl b]] [] (some [d]))=some (.b d,some [],[(decide (a.k<=b.k),d)]):=by cases d<;>kernel_rfl
theorem irightG:PlainOk prog 67 oRt:=by
 intro args ds x ds' ob h ho;unfold oRt at h;split at h
 ·rename_i a b;simp only[mIz,pIz]at h;obtain⟨⟨d,e,o⟩,h1,rfl,rfl,rfl⟩:=h;have hd:d=decide (a.k<=b.k):=takeB_ok h1 ho;refine⟨[.agg #[.float .f64 a.b,.float .f64 b.b]],.bool d,rfl,rfl,fun w=> ?_⟩;exact calls_of_val goodG oracleIR 60 (irightRun a b d) (ObsOk.of_B (obsB_yes hd.symm obsB_nil)) rfl rfl w
 ·cases h
def OIH:OracleF:=lookO [(67,plainO oRt)]
theorem oracleIH:OracleOk prog OIH:= .cons irightG.of (.nil _)
theorem ihasRun0(a b x:F):valR ((run prog EG OIH 60).1 140 [.agg [.fl a,.fl b],.fl x] [] (some [false]))=some (.b false,some [],[(rt ⟨a,b⟩,false)]):=by kernel_rfl
theorem ihasRun1(a b x:F):valR ((run prog EG OIH 60).1 140 [.agg [.fl a,.fl b],.fl x] [] (some [true,false]))=some (.b false,some [],[(decide (a.k<=x.k),false),(rt ⟨a,b⟩,true)]):=by kernel_rfl
theorem ihasRun2(a b x:F)(d:Bool):valR ((run prog EG OIH 60).1 140 [.agg [.fl a,.fl b],.fl x] [] (some [true,true,d]))=some (.b d,some [],[(decide (x.k<=b.k),d),(decide (a.k<=x.k),true),(rt ⟨a,b⟩,true)]):=by cases d<;>kernel_rfl
theorem ihasG:PlainOk prog 140 oHas:=by
 intro args ds x ds' ob h ho;unfold oHas at h;split at h
 ·rename_i a b z;simp only[mIz,pIz]at h;obtain⟨⟨d,e,o⟩,h1,rfl,rfl,rfl⟩:=h;have hd:d=hasB ⟨a,b⟩ z:=takeB_ok h1 ho;refine⟨[.agg #[.float .f64 a.b,.float .f64 b.b],.float .f64 z.b],.bool d,rfl,rfl,fun w=> ?_⟩;subst hd;cases h1:rt ⟨a,b⟩
  ·rw[show hasB ⟨a,b⟩ z=false from by simp[hasB,h1]];exact calls_of_val goodG oracleIH 60 (ihasRun0 a b z) (ObsOk.of_B (obsB_yes h1 obsB_nil)) rfl rfl w
  ·cases h2:decide (a.k<=z.k)
   ·rw[show hasB ⟨a,b⟩ z=false from by simp[hasB,h1,h2]];exact calls_of_val goodG oracleIH 60 (ihasRun1 a b z) (ObsOk.of_B (obsB_yes h2 (obsB_yes h1 obsB_nil))) rfl rfl w
   ·rw[show hasB ⟨a,b⟩ z=decide (z.k<=b.k)from by simp[hasB,h1,h2]];exact calls_of_val goodG oracleIH 60 (ihasRun2 a b z (decide (z.k<=b.k))) (ObsOk.of_B (obsB_yes rfl (obsB_yes h2 (obsB_yes h1 obsB_nil)))) rfl rfl w
 ·cases h
def subZ(s:Nat->Option Nat)(b:F):F:=toF ((s b.b).getD 0)
def obZ(s:Nat->Option Nat)(b:F):Obs:=[((s b.b).isSome,true),(rightB ((s b.b).getD 0),true)]
theorem subZ_neg(b:F):subZ (Ieee.double.sub (toF 0).b) b=b.neg:=by unfold subZ;rw[toF0,sub_zero_F,Option.getD_some,toF_F]
theorem obZ_ok(b:F):obsB (obZ (Ieee.double.sub (toF 0).b) b)=true:=by unfold obZ;rw[toF0,sub_zero_F];exact obsB_yes rfl (obsB_yes (right_F _) obsB_nil)
theorem turnRun(a b:F):valR ((run prog EG OIH 60).1 169 [.agg [.fl a,.fl b]] [] (some []))=some (.agg [.fl (subZ (Ieee.double.sub (toF 0).b) b),.fl (subZ (Ieee.double.sub (toF 0).b) a)],some [],obZ (Ieee.double.sub (toF 0).b) a++obZ (Ieee.double.sub (toF 0).b) b):=by kernel_rfl
theorem turnG:PlainOk prog 169 (oI1 turnI):=by
 intro args ds x ds' ob h ho;unfold oI1 at h;split at h
 ·rename_i a b;simp only[sIz,pIz]at h;obtain⟨rfl,_,_⟩:=h;refine⟨[.agg #[.float .f64 a.b,.float .f64 b.b]],_,rfl,rfl,fun w=> ?_⟩;have hr:=turnRun a b;rw[subZ_neg,subZ_neg]at hr;exact calls_of_val goodG oracleIH 60 hr (ObsOk.of_B (by rw[obsB_app,obZ_ok,obZ_ok];rfl)) rfl rfl w
 ·cases h
def OIB:OracleF:=lookO [(169,plainO (oI1 turnI))]
theorem oracleIB:OracleOk prog OIB:= .cons turnG.of (.nil _)
theorem bareRun0(a b:F):valR ((run prog EG OIB 60).1 101 [.agg [.fl a,.fl b]] [] (some [true]))=some (.agg [.fl a,.fl b],some [],[(decide ((toF 0).k<=a.k),true)]):=by kernel_rfl
theorem bareRun1(a b:F):valR ((run prog EG OIB 60).1 101 [.agg [.fl a,.fl b]] [] (some [false,true]))=some (.agg [.fl b.neg,.fl a.neg],some [],[(decide (b.k<=(toF 0).k),true),(decide ((toF 0).k<=a.k),false)]):=by kernel_rfl
theorem bareRun2(a b:F):valR ((run prog EG OIB 60).1 101 [.agg [.fl a,.fl b]] [] (some [false,false]))=some (.agg [.fl F.zero,.fl (mxF b a.neg)],some [],[(!decide (a.k=0),true),(decide (b.k<=(toF 0).k),false),(decide ((toF 0).k<=a.k),false)]):=by kernel_rfl
theorem bareG:PlainOk prog 101 (oI1 bareI):=by
 intro args ds x ds' ob h ho;unfold oI1 at h;split at h
 ·rename_i a b;simp only[sIz,pIz]at h;obtain⟨rfl,_,_⟩:=h;refine⟨[.agg #[.float .f64 a.b,.float .f64 b.b]],_,rfl,rfl,fun w=> ?_⟩;cases h1:decide (0<=a.k)
  ·cases h2:decide (b.k<=0)
   ·rw[show bareI ⟨a,b⟩=⟨F.zero,mxF b a.neg⟩from by simp only[bareI,h1,h2,cF]];exact calls_of_val goodG oracleIB 60 (bareRun2 a b) (ObsOk.of_B (obsB_yes (by have:=of_decide_eq_false h1;simp;omega) (obsB_yes (by rw[zero_k'];exact h2) (obsB_yes (by rw[zero_k'];exact h1) obsB_nil)))) rfl rfl w
   ·rw[show bareI ⟨a,b⟩=⟨b.neg,a.neg⟩from by simp only[bareI,turnI,h1,h2,cF,cT]];exact calls_of_val goodG oracleIB 60 (bareRun1 a b) (ObsOk.of_B (obsB_yes (by rw[zero_k'];exact h2) (obsB_yes (by rw[zero_k'];exact h1) obsB_nil))) rfl rfl w
  ·rw[show bareI ⟨a,b⟩=⟨a,b⟩from by simp only[bareI,h1,cT]];exact calls_of_val goodG oracleIB 60 (bareRun0 a b) (ObsOk.of_B (obsB_yes (by rw[zero_k'];exact h1) obsB_nil)) rfl rfl w
 ·cases h
theorem hullRun(a b c d:F):valR ((run prog EG OIR 60).1 157 [.agg [.fl a,.fl b],.agg [.fl c,.fl d]] [] (some []))=some (.agg [.fl (mnF a c),.fl (mxF b d)],some [],[]):=by kernel_rfl
theorem hullG:PlainOk prog 157 (oI2 hullI):=by
 intro args ds x ds' ob h ho;unfold oI2 at h;split at h
 ·rename_i a b c d;simp only[sIz,pIz]at h;obtain⟨rfl,_,_⟩:=h;exact⟨[.agg #[.float .f64 a.b,.float .f64 b.b],.agg #[.float .f64 c.b,.float .f64 d.b]],_,rfl,rfl,fun w=>calls_of_val goodG oracleIR 60 (hullRun a b c d) (ObsOk.of_B obsB_nil) rfl rfl w⟩
 ·cases h
def OIAdd(f:Bool->F->F->F×Int):OracleF:=lookO [(67,plainO oRt),(102,plainO (kTwo f))]
theorem oracleIAdd{f:Bool->F->F->F×Int}(hf:PlainOk prog 102 (kTwo f)):OracleOk prog (OIAdd f):= .cons irightG.of (.cons hf.of (.nil _))
theorem cadd_p0(f:Bool->F->F->F×Int)(t:Nat)(n:Int)(a b c d:F):takeR 1 ((run prog EG (OIAdd f) 60).1 42 (.p 0 0:: [.agg [.fl a,.fl b],.agg [.fl c,.fl d]]) [⟨t,[.si .i64 n],.ex⟩] (some [false,false]))=some (.agg [.fl F.zero,.fl F.zero],[⟨t,[.i .i64 20],.ex⟩],some [],[(rt ⟨a,b⟩,false),((!(n==0)),false)]):=by kernel_rfl
theorem cadd_p1(f:Bool->F->F->F×Int)(t:Nat)(n:Int)(a b c d:F):takeR 1 ((run prog EG (OIAdd f) 60).1 42 (.p 0 0:: [.agg [.fl a,.fl b],.agg [.fl c,.fl d]]) [⟨t,[.si .i64 n],.ex⟩] (some [false,true,false]))=some (.agg [.fl F.zero,.fl F.zero],[⟨t,[.i .i64 20],.ex⟩],some [],[(rt ⟨c,d⟩,false),(rt ⟨a,b⟩,true),((!(n==0)),false)]):=by kernel_rfl
theorem cadd_p2(f:Bool->F->F->F×Int)(t:Nat)(n:Int)(a b c d:F):takeR 1 ((run prog EG (OIAdd f) 60).1 42 (.p 0 0:: [.agg [.fl a,.fl b],.agg [.fl c,.fl d]]) [⟨t,[.si .i64 n],.ex⟩] (some [false,true,true,false,false]))=some (.agg [.fl (f false a c).1,.fl (f true b d).1],[⟨t,[.si .i64 n],.ex⟩],some [],[((!((f true b d).2==0)),false),((!((f false a c).2==0)),false),(rt ⟨c,d⟩,true),(rt ⟨a,b⟩,true),((!(n==0)),false)]):=by kernel_rfl
theorem cadd_p3(f:Bool->F->F->F×Int)(t:Nat)(n:Int)(a b c d:F):takeR 1 ((run prog EG (OIAdd f) 60).1 42 (.p 0 0:: [.agg [.fl a,.fl b],.agg [.fl c,.fl d]]) [⟨t,[.si .i64 n],.ex⟩] (some [false,true,true,false,true]))=some (.agg [.fl F.zero,.fl F.zero],[⟨t,[.si .i64 (f true b d).2],.ex⟩],some [],[((!((f true b d).2==0)),true),((!((f false a c).2==0)),false),(rt ⟨c,d⟩,true),(rt ⟨a,b⟩,true),((!(n==0)),false)]):=by kernel_rfl
theorem cadd_p4(f:Bool->F->F->F×Int)(t:Nat)(n:Int)(a b c d:F):takeR 1 ((run prog EG (OIAdd f) 60).1 42 (.p 0 0:: [.agg [.fl a,.fl b],.agg [.fl c,.fl d]]) [⟨t,[.si .i64 n],.ex⟩] (some [false,true,true,true,true]))=some (.agg [.fl F.zero,.fl F.zero],[⟨t,[.si .i64 (f false a c).2],.ex⟩],some [],[((!((f false a c).2==0)),true),((!((f false a c).2==0)),true),(rt ⟨c,d⟩,true),(rt ⟨a,b⟩,true),((!(n==0)),false)]):=by kernel_rfl
theorem cadd_p5(f:Bool->F->F->F×Int)(t:Nat)(n:Int)(a b c d:F):takeR 1 ((run prog EG (OIAdd f) 60).1 42 (.p 0 0:: [.agg [.fl a,.fl b],.agg [.fl c,.fl d]]) [⟨t,[.si .i64 n],.ex⟩] (some [true]))=some (.agg [.fl F.zero,.fl F.zero],[⟨t,[.si .i64 n],.ex⟩],some [],[((!(n==0)),true)]):=by kernel_rfl
theorem cadd_I{f:Bool->F->F->F×Int}(hf:PlainOk prog 102 (kTwo f)):OfOk prog 42 (kC (aII (cAdd f))):=by
 refine ofII fun a b c d t n=> ?_;cases h0:(!(n==0))
 ·skip
  cases h1:rt ⟨a,b⟩
  ·skip
   exact calc_path goodG (oracleIAdd hf) (cadd_p0 f t n a b c d) (obsB_yes h1 (obsB_yes h0 obsB_nil)) (by simp only[cAdd,askI,endsI,I.zero,h0,h1,cT,cF,Bool.and_true,Bool.true_and,Bool.and_false,Bool.false_and]) rfl
  ·skip
   cases h2:rt ⟨c,d⟩
   ·skip
    exact calc_path goodG (oracleIAdd hf) (cadd_p1 f t n a b c d) (obsB_yes h2 (obsB_yes h1 (obsB_yes h0 obsB_nil))) (by simp only[cAdd,askI,endsI,I.zero,h0,h1,h2,cT,cF,Bool.and_true,Bool.true_and,Bool.and_false,Bool.false_and]) rfl
   ·skip
    cases h3:(!((f false a c).2==0))
    ·skip
     cases h4:(!((f true b d).2==0))
     ·skip
      exact calc_path goodG (oracleIAdd hf) (cadd_p2 f t n a b c d) (obsB_yes h4 (obsB_yes h3 (obsB_yes h2 (obsB_yes h1 (obsB_yes h0 obsB_nil))))) (by simp only[cAdd,askI,endsI,I.zero,h0,h1,h2,h3,h4,cT,cF,Bool.and_true,Bool.true_and,Bool.and_false,Bool.false_and]) rfl
     ·skip
      exact calc_path goodG (oracleIAdd hf) (cadd_p3 f t n a b c d) (obsB_yes h4 (obsB_yes h3 (obsB_yes h2 (obsB_yes h1 (obsB_yes h0 obsB_nil))))) (by simp only[cAdd,askI,endsI,I.zero,h0,h1,h2,h3,h4,cT,cF,Bool.and_true,Bool.true_and,Bool.and_false,Bool.false_and]) rfl
    ·skip
     exact calc_path goodG (oracleIAdd hf) (cadd_p4 f t n a b c d) (obsB_yes h3 (obsB_yes h3 (obsB_yes h2 (obsB_yes h1 (obsB_yes h0 obsB_nil))))) (by simp only[cAdd,askI,endsI,I.zero,h0,h1,h2,h3,cT,cF,Bool.and_true,Bool.true_and,Bool.and_false,Bool.false_and]) rfl
 ·skip
  exact calc_path goodG (oracleIAdd hf) (cadd_p5 f t n a b c d) (obsB_yes h0 obsB_nil) (by simp only[cAdd,askI,endsI,I.zero,h0,cT,cF,Bool.and_true,Bool.true_and,Bool.and_false,Bool.false_and]) rfl
def OISub(f:Bool->F->F->F×Int):OracleF:=lookO [(67,plainO oRt),(98,plainO (kTwo f))]
theorem oracleISub{f:Bool->F->F->F×Int}(hf:PlainOk prog 98 (kTwo f)):OracleOk prog (OISub f):= .cons irightG.of (.cons hf.of (.nil _))
theorem csub_p0(f:Bool->F->F->F×Int)(t:Nat)(n:Int)(a b c d:F):takeR 1 ((run prog EG (OISub f) 60).1 39 (.p 0 0:: [.agg [.fl a,.fl b],.agg [.fl c,.fl d]]) [⟨t,[.si .i64 n],.ex⟩] (some [false,false]))=some (.agg [.fl F.zero,.fl F.zero],[⟨t,[.i .i64 20],.ex⟩],some [],[(rt ⟨a,b⟩,false),((!(n==0)),false)]):=by kernel_rfl
theorem csub_p1(f:Bool->F->F->F×Int)(t:Nat)(n:Int)(a b c d:F):takeR 1 ((run prog EG (OISub f) 60).1 39 (.p 0 0:: [.agg [.fl a,.fl b],.agg [.fl c,.fl d]]) [⟨t,[.si .i64 n],.ex⟩] (some [false,true,false]))=some (.agg [.fl F.zero,.fl F.zero],[⟨t,[.i .i64 20],.ex⟩],some [],[(rt ⟨c,d⟩,false),(rt ⟨a,b⟩,true),((!(n==0)),false)]):=by kernel_rfl
theorem csub_p2(f:Bool->F->F->F×Int)(t:Nat)(n:Int)(a b c d:F):takeR 1 ((run prog EG (OISub f) 60).1 39 (.p 0 0:: [.agg [.fl a,.fl b],.agg [.fl c,.fl d]]) [⟨t,[.si .i64 n],.ex⟩] (some [false,true,true,false,false]))=some (.agg [.fl (f false a d).1,.fl (f true b c).1],[⟨t,[.si .i64 n],.ex⟩],some [],[((!((f true b c).2==0)),false),((!((f false a d).2==0)),false),(rt ⟨c,d⟩,true),(rt ⟨a,b⟩,true),((!(n==0)),false)]):=by kernel_rfl
theorem csub_p3(f:Bool->F->F->F×Int)(t:Nat)(n:Int)(a b c d:F):takeR 1 ((run prog EG (OISub f) 60).1 39 (.p 0 0:: [.agg [.fl a,.fl b],.agg [.fl c,.fl d]]) [⟨t,[.si .i64 n],.ex⟩] (some [false,true,true,false,true]))=some (.agg [.fl F.zero,.fl F.zero],[⟨t,[.si .i64 (f true b c).2],.ex⟩],some [],[((!((f true b c).2==0)),true),((!((f false a d).2==0)),false),(rt ⟨c,d⟩,true),(rt ⟨a,b⟩,true),((!(n==0)),false)]):=by kernel_rfl
theorem csub_p4(f:Bool->F->F->F×Int)(t:Nat)(n:Int)(a b c d:F):takeR 1 ((run prog EG (OISub f) 60).1 39 (.p 0 0:: [.agg [.fl a,.fl b],.agg [.fl c,.fl d]]) [⟨t,[.si .i64 n],.ex⟩] (some [false,true,true,true,true]))=some (.agg [.fl F.zero,.fl F.zero],[⟨t,[.si .i64 (f false a d).2],.ex⟩],some [],[((!((f false a d).2==0)),true),((!((f false a d).2==0)),true),(rt ⟨c,d⟩,true),(rt ⟨a,b⟩,true),((!(n==0)),false)]):=by kernel_rfl
theorem csub_p5(f:Bool->F->F->F×Int)(t:Nat)(n:Int)(a b c d:F):takeR 1 ((run prog EG (OISub f) 60).1 39 (.p 0 0:: [.agg [.fl a,.fl b],.agg [.fl c,.fl d]]) [⟨t,[.si .i64 n],.ex⟩] (some [true]))=some (.agg [.fl F.zero,.fl F.zero],[⟨t,[.si .i64 n],.ex⟩],some [],[((!(n==0)),true)]):=by kernel_rfl
theorem csub_I{f:Bool->F->F->F×Int}(hf:PlainOk prog 98 (kTwo f)):OfOk prog 39 (kC (aII (cSub f))):=by
 refine ofII fun a b c d t n=> ?_;cases h0:(!(n==0))
 ·skip
  cases h1:rt ⟨a,b⟩
  ·skip
   exact calc_path goodG (oracleISub hf) (csub_p0 f t n a b c d) (obsB_yes h1 (obsB_yes h0 obsB_nil)) (by simp only[cSub,askI,endsI,I.zero,h0,h1,cT,cF,Bool.and_true,Bool.true_and,Bool.and_false,Bool.false_and]) rfl
  ·skip
   cases h2:rt ⟨c,d⟩
   ·skip
    exact calc_path goodG (oracleISub hf) (csub_p1 f t n a b c d) (obsB_yes h2 (obsB_yes h1 (obsB_yes h0 obsB_nil))) (by simp only[cSub,askI,endsI,I.zero,h0,h1,h2,cT,cF,Bool.and_true,Bool.true_and,Bool.and_false,Bool.false_and]) rfl
   ·skip
    cases h3:(!((f false a d).2==0))
    ·skip
     cases h4:(!((f true b c).2==0))
     ·skip
      exact calc_path goodG (oracleISub hf) (csub_p2 f t n a b c d) (obsB_yes h4 (obsB_yes h3 (obsB_yes h2 (obsB_yes h1 (obsB_yes h0 obsB_nil))))) (by simp only[cSub,askI,endsI,I.zero,h0,h1,h2,h3,h4,cT,cF,Bool.and_true,Bool.true_and,Bool.and_false,Bool.false_and]) rfl
     ·skip
      exact calc_path goodG (oracleISub hf) (csub_p3 f t n a b c d) (obsB_yes h4 (obsB_yes h3 (obsB_yes h2 (obsB_yes h1 (obsB_yes h0 obsB_nil))))) (by simp only[cSub,askI,endsI,I.zero,h0,h1,h2,h3,h4,cT,cF,Bool.and_true,Bool.true_and,Bool.and_false,Bool.false_and]) rfl
    ·skip
     exact calc_path goodG (oracleISub hf) (csub_p4 f t n a b c d) (obsB_yes h3 (obsB_yes h3 (obsB_yes h2 (obsB_yes h1 (obsB_yes h0 obsB_nil))))) (by simp only[cSub,askI,endsI,I.zero,h0,h1,h2,h3,cT,cF,Bool.and_true,Bool.true_and,Bool.and_false,Bool.false_and]) rfl
 ·skip
  exact calc_path goodG (oracleISub hf) (csub_p5 f t n a b c d) (obsB_yes h0 obsB_nil) (by simp only[cSub,askI,endsI,I.zero,h0,cT,cF,Bool.and_true,Bool.true_and,Bool.and_false,Bool.false_and]) rfl
def OIMul(f:Bool->F->F->F×Int):OracleF:=lookO [(67,plainO oRt),(157,plainO (oI2 hullI)),(81,plainO (kTwo f))]
theorem oracleIMul{f:Bool->F->F->F×Int}(hf:PlainOk prog 81 (kTwo f)):OracleOk prog (OIMul f):= .cons irightG.of (.cons hullG.of (.cons hf.of (.nil _)))
theorem cmul_p0(f:Bool->F->F->F×Int)(t:Nat)(n:Int)(a b c d:F):takeR 1 ((run prog EG (OIMul f) 60).1 28 (.p 0 0:: [.agg [.fl a,.fl b],.agg [.fl c,.fl d]]) [⟨t,[.si .i64 n],.ex⟩] (some [false,false]))=some (.agg [.fl F.zero,.fl F.zero],[⟨t,[.i .i64 20],.ex⟩],some [],[(rt ⟨a,b⟩,false),((!(n==0)),false)]):=by kernel_rfl
theorem cmul_p1(f:Bool->F->F->F×Int)(t:Nat)(n:Int)(a b c d:F):takeR 1 ((run prog EG (OIMul f) 60).1 28 (.p 0 0:: [.agg [.fl a,.fl b],.agg [.fl c,.fl d]]) [⟨t,[.si .i64 n],.ex⟩] (some [false,true,false]))=some (.agg [.fl F.zero,.fl F.zero],[⟨t,[.i .i64 20],.ex⟩],some [],[(rt ⟨c,d⟩,false),(rt ⟨a,b⟩,true),((!(n==0)),false)]):=by kernel_rfl
theorem cmul_p2(f:Bool->F->F->F×Int)(t:Nat)(n:Int)(a b c d:F):takeR 1 ((run prog EG (OIMul f) 60).1 28 (.p 0 0:: [.agg [.fl a,.fl b],.agg [.fl c,.fl d]]) [⟨t,[.si .i64 n],.ex⟩] (some [false,true,true,false,false,false,false,false,false,false,false]))=some (.agg [.fl (mnF (mnF (mnF (mnF (f false a c).1 (f false a c).1) (f false a d).1) (f false b c).1) (f false b d).1),.fl (mxF (mxF (mxF (mxF (f true a c).1 (f true a c).1) (f true a d).1) (f true b c).1) (f true b d).1)],[⟨t,[.si .i64 n],.ex⟩],some [],[((!((f true b d).2==0)),false),((!((f false b d).2==0)),false),((!((f true b c).2==0)),false),((!((f false b c).2==0)),false),((!((f true a d).2==0)),false),((!((f false a d).2==0)),false),((!((f true a c).2==0)),false),((!((f false a c).2==0)),false),(rt ⟨c,d⟩,true),(rt ⟨a,b⟩,true),((!(n==0)),false)]):=by kernel_rfl
theorem cmul_p3(f:Bool->F->F->F×Int)(t:Nat)(n:Int)(a b c d:F):takeR 1 ((run prog EG (OIMul f) 60).1 28 (.p 0 0:: [.agg [.fl a,.fl b],.agg [.fl c,.fl d]]) [⟨t,[.si .i64 n],.ex⟩] (some [false,true,true,false,false,false,false,false,false,false,true,true]))=some (.agg [.fl F.zero,.fl F.zero],[⟨t,[.si .i64 (f true b d).2],.ex⟩],some [],[((!((f true b d).2==0)),true),((!((f true b d).2==0)),true),((!((f false b d).2==0)),false),((!((f true b c).2==0)),false),((!((f false b c).2==0)),false),((!((f true a d).2==0)),false),((!((f false a d).2==0)),false),((!((f true a c).2==0)),false),((!((f false a c).2==0)),false),(rt ⟨c,d⟩,true),(rt ⟨a,b⟩,true),((!(n==0)),false)]):=by kernel_rfl
theorem cmul_p4(f:Bool->F->F->F×Int)(t:Nat)(n:Int)(a b c d:F):takeR 1 ((run prog EG (OIMul f) 60).1 28 (.p 0 0:: [.agg [.fl a,.fl b],.agg [.fl c,.fl d]]) [⟨t,[.si .i64 n],.ex⟩] (some [false,true,true,false,false,false,false,false,false,true,true,true]))=some (.agg [.fl F.zero,.fl F.zero],[⟨t,[.si .i64 (f false b d).2],.ex⟩],some [],[((!((f false b d).2==0)),true),((!((f false b d).2==0)),true),((!((f false b d).2==0)),true),((!((f true b c).2==0)),false),((!((f false b c).2==0)),false),((!((f true a d).2==0)),false),((!((f false a d).2==0)),false),((!((f true a c).2==0)),false),((!((f false a c).2==0)),false),(rt ⟨c,d⟩,true),(rt ⟨a,b⟩,true),((!(n==0)),false)]):=by kernel_rfl
theorem cmul_p5(f:Bool->F->F->F×Int)(t:Nat)(n:Int)(a b c d:F):takeR 1 ((run prog EG (OIMul f) 60).1 28 (.p 0 0:: [.agg [.fl a,.fl b],.agg [.fl c,.fl d]]) [⟨t,[.si .i64 n],.ex⟩] (some [false,true,true,false,false,false,false,false,true,true]))=some (.agg [.fl F.zero,.fl F.zero],[⟨t,[.si .i64 (f true b c).2],.ex⟩],some [],[((!((f true b c).2==0)),true),((!((f true b c).2==0)),true),((!((f false b c).2==0)),false),((!((f true a d).2==0)),false),((!((f false a d).2==0)),false),((!((f true a c).2==0)),false),((!((f false a c).2==0)),false),(rt ⟨c,d⟩,true),(rt ⟨a,b⟩,true),((!(n==0)),false)]):=by kernel_rfl
theorem cmul_p6(f:Bool->F->F->F×Int)(t:Nat)(n:Int)(a b c d:F):takeR 1 ((run prog EG (OIMul f) 60).1 28 (.p 0 0:: [.agg [.fl a,.fl b],.agg [.fl c,.fl d]]) [⟨t,[.si .i64 n],.ex⟩] (some [false,true,true,false,false,false,false,true,true,true]))=some (.agg [.fl F.zero,.fl F.zero],[⟨t,[.si .i64 (f false b c).2],.ex⟩],some [],[((!((f false b c).2==0)),true),((!((f false b c).2==0)),true),((!((f false b c).2==0)),true),((!((f true a d).2==0)),false),((!((f false a d).2==0)),false),((!((f true a c).2==0)),false),((!((f false a c).2==0)),false),(rt ⟨c,d⟩,true),(rt ⟨a,b⟩,true),((!(n==0)),false)]):=by kernel_rfl
theorem cmul_p7(f:Bool->F->F->F×Int)(t:Nat)(n:Int)(a b c d:F):takeR 1 ((run prog EG (OIMul f) 60).1 28 (.p 0 0:: [.agg [.fl a,.fl b],.agg [.fl c,.fl d]]) [⟨t,[.si .i64 n],.ex⟩] (some [false,true,true,false,false,false,true,true]))=some (.agg [.fl F.zero,.fl F.zero],[⟨t,[.si .i64 (f true a d).2],.ex⟩],some [],[((!((f true a d).2==0)),true),((!((f true a d).2==0)),true),((!((f false a d).2==0)),false),((!((f true a c).2==0)),false),((!((f false a c).2==0)),false),(rt ⟨c,d⟩,true),(rt ⟨a,b⟩,true),((!(n==0)),false)]):=by kernel_rfl
theorem cmul_p8(f:Bool->F->F->F×Int)(t:Nat)(n:Int)(a b c d:F):takeR 1 ((run prog EG (OIMul f) 60).1 28 (.p 0 0:: [.agg [.fl a,.fl b],.agg [.fl c,.fl d]]) [⟨t,[.si .i64 n],.ex⟩] (some [false,true,true,false,false,true,true,true]))=some (.agg [.fl F.zero,.fl F.zero],[⟨t,[.si .i64 (f false a d).2],.ex⟩],some [],[((!((f false a d).2==0)),true),((!((f false a d).2==0)),true),((!((f false a d).2==0)),true),((!((f true a c).2==0)),false),((!((f false a c).2==0)),false),(rt ⟨c,d⟩,true),(rt ⟨a,b⟩,true),((!(n==0)),false)]):=by kernel_rfl
theorem cmul_p9(f:Bool->F->F->F×Int)(t:Nat)(n:Int)(a b c d:F):takeR 1 ((run prog EG (OIMul f) 60).1 28 (.p 0 0:: [.agg [.fl a,.fl b],.agg [.fl c,.fl d]]) [⟨t,[.si .i64 n],.ex⟩] (some [false,true,true,false,true,true]))=some (.agg [.fl F.zero,.fl F.zero],[⟨t,[.si .i64 (f true a c).2],.ex⟩],some [],[((!((f true a c).2==0)),true),((!((f true a c).2==0)),true),((!((f false a c).2==0)),false),(rt ⟨c,d⟩,true),(rt ⟨a,b⟩,true),((!(n==0)),false)]):=by kernel_rfl
theorem cmul_p10(f:Bool->F->F->F×Int)(t:Nat)(n:Int)(a b c d:F):takeR 1 ((run prog EG (OIMul f) 60).1 28 (.p 0 0:: [.agg [.fl a,.fl b],.agg [.fl c,.fl d]]) [⟨t,[.si .i64 n],.ex⟩] (some [false,true,true,true,true,true]))=some (.agg [.fl F.zero,.fl F.zero],[⟨t,[.si .i64 (f false a c).2],.ex⟩],some [],[((!((f false a c).2==0)),true),((!((f false a c).2==0)),true),((!((f false a c).2==0)),true),(rt ⟨c,d⟩,true),(rt ⟨a,b⟩,true),((!(n==0)),false)]):=by kernel_rfl
theorem cmul_p11(f:Bool->F->F->F×Int)(t:Nat)(n:Int)(a b c d:F):takeR 1 ((run prog EG (OIMul f) 60).1 28 (.p 0 0:: [.agg [.fl a,.fl b],.agg [.fl c,.fl d]]) [⟨t,[.si .i64 n],.ex⟩] (some [true]))=some (.agg [.fl F.zero,.fl F.zero],[⟨t,[.si .i64 n],.ex⟩],some [],[((!(n==0)),true)]):=by kernel_rfl
theorem cmul_I{f:Bool->F->F->F×Int}(hf:PlainOk prog 81 (kTwo f)):OfOk prog 28 (kC (aII (cMul f))):=by
 refine ofII fun a b c d t n=> ?_;cases h0:(!(n==0))
 ·skip
  cases h1:rt ⟨a,b⟩
  ·skip
   exact calc_path goodG (oracleIMul hf) (cmul_p0 f t n a b c d) (obsB_yes h1 (obsB_yes h0 obsB_nil)) (by simp only[cMul,askI,allI,thenI,oneI,endsI,hullI,show(!((0:Int)==0))=false from rfl,show(!((11:Int)==0))=true from rfl,I.zero,h0,h1,cT,cF,Bool.and_true,Bool.true_and,Bool.and_false,Bool.false_and]) rfl
  ·skip
   cases h2:rt ⟨c,d⟩
   ·skip
    exact calc_path goodG (oracleIMul hf) (cmul_p1 f t n a b c d) (obsB_yes h2 (obsB_yes h1 (obsB_yes h0 obsB_nil))) (by simp only[cMul,askI,allI,thenI,oneI,endsI,hullI,show(!((0:Int)==0))=false from rfl,show(!((11:Int)==0))=true from rfl,I.zero,h0,h1,h2,cT,cF,Bool.and_true,Bool.true_and,Bool.and_false,Bool.false_and]) rfl
   ·skip
    cases h10:(!((f false a c).2==0))
    ·skip
     cases h11:(!((f true a c).2==0))
     ·skip
      cases h12:(!((f false a d).2==0))
      ·skip
       cases h13:(!((f true a d).2==0))
       ·skip
        cases h14:(!((f false b c).2==0))
        ·skip
         cases h15:(!((f true b c).2==0))
         ·skip
          cases h16:(!((f false b d).2==0))
          ·skip
           cases h17:(!((f true b d).2==0))
           ·skip
            exact calc_path goodG (oracleIMul hf) (cmul_p2 f t n a b c d) (obsB_yes h17 (obsB_yes h16 (obsB_yes h15 (obsB_yes h14 (obsB_yes h13 (obsB_yes h12 (obsB_yes h11 (obsB_yes h10 (obsB_yes h2 (obsB_yes h1 (obsB_yes h0 obsB_nil))))))))))) (by simp only[cMul,askI,allI,thenI,oneI,endsI,hullI,show(!((0:Int)==0))=false from rfl,show(!((11:Int)==0))=true from rfl,I.zero,h0,h1,h2,h10,h11,h12,h13,h14,h15,h16,h17,cT,cF,Bool.and_true,Bool.true_and,Bool.and_false,Bool.false_and]) rfl
           ·skip
            exact calc_path goodG (oracleIMul hf) (cmul_p3 f t n a b c d) (obsB_yes h17 (obsB_yes h17 (obsB_yes h16 (obsB_yes h15 (obsB_yes h14 (obsB_yes h13 (obsB_yes h12 (obsB_yes h11 (obsB_yes h10 (obsB_yes h2 (obsB_yes h1 (obsB_yes h0 obsB_nil)))))))))))) (by simp only[cMul,askI,allI,thenI,oneI,endsI,hullI,show(!((0:Int)==0))=false from rfl,show(!((11:Int)==0))=true from rfl,I.zero,h0,h1,h2,h10,h11,h12,h13,h14,h15,h16,h17,cT,cF,Bool.and_true,Bool.true_and,Bool.and_false,Bool.false_and]) rfl
          ·skip
           exact calc_path goodG (oracleIMul hf) (cmul_p4 f t n a b c d) (obsB_yes h16 (obsB_yes h16 (obsB_yes h16 (obsB_yes h15 (obsB_yes h14 (obsB_yes h13 (obsB_yes h12 (obsB_yes h11 (obsB_yes h10 (obsB_yes h2 (obsB_yes h1 (obsB_yes h0 obsB_nil)))))))))))) (by simp only[cMul,askI,allI,thenI,oneI,endsI,hullI,show(!((0:Int)==0))=false from rfl,show(!((11:Int)==0))=true from rfl,I.zero,h0,h1,h2,h10,h11,h12,h13,h14,h15,h16,cT,cF,Bool.and_true,Bool.true_and,Bool.and_false,Bool.false_and]) rfl
         ·skip
          exact calc_path goodG (oracleIMul hf) (cmul_p5 f t n a b c d) (obsB_yes h15 (obsB_yes h15 (obsB_yes h14 (obsB_yes h13 (obsB_yes h12 (obsB_yes h11 (obsB_yes h10 (obsB_yes h2 (obsB_yes h1 (obsB_yes h0 obsB_nil)))))))))) (by simp only[cMul,askI,allI,thenI,oneI,endsI,hullI,show(!((0:Int)==0))=false from rfl,show(!((11:Int)==0))=true from rfl,I.zero,h0,h1,h2,h10,h11,h12,h13,h14,h15,cT,cF,Bool.and_true,Bool.true_and,Bool.and_false,Bool.false_and]) rfl
        ·skip
         exact calc_path goodG (oracleIMul hf) (cmul_p6 f t n a b c d) (obsB_yes h14 (obsB_yes h14 (obsB_yes h14 (obsB_yes h13 (obsB_yes h12 (obsB_yes h11 (obsB_yes h10 (obsB_yes h2 (obsB_yes h1 (obsB_yes h0 obsB_nil)))))))))) (by simp only[cMul,askI,allI,thenI,oneI,endsI,hullI,show(!((0:Int)==0))=false from rfl,show(!((11:Int)==0))=true from rfl,I.zero,h0,h1,h2,h10,h11,h12,h13,h14,cT,cF,Bool.and_true,Bool.true_and,Bool.and_false,Bool.false_and]) rfl
       ·skip
        exact calc_path goodG (oracleIMul hf) (cmul_p7 f t n a b c d) (obsB_yes h13 (obsB_yes h13 (obsB_yes h12 (obsB_yes h11 (obsB_yes h10 (obsB_yes h2 (obsB_yes h1 (obsB_yes h0 obsB_nil)))))))) (by simp only[cMul,askI,allI,thenI,oneI,endsI,hullI,show(!((0:Int)==0))=false from rfl,show(!((11:Int)==0))=true from rfl,I.zero,h0,h1,h2,h10,h11,h12,h13,cT,cF,Bool.and_true,Bool.true_and,Bool.and_false,Bool.false_and]) rfl
      ·skip
       exact calc_path goodG (oracleIMul hf) (cmul_p8 f t n a b c d) (obsB_yes h12 (obsB_yes h12 (obsB_yes h12 (obsB_yes h11 (obsB_yes h10 (obsB_yes h2 (obsB_yes h1 (obsB_yes h0 obsB_nil)))))))) (by simp only[cMul,askI,allI,thenI,oneI,endsI,hullI,show(!((0:Int)==0))=false from rfl,show(!((11:Int)==0))=true from rfl,I.zero,h0,h1,h2,h10,h11,h12,cT,cF,Bool.and_true,Bool.true_and,Bool.and_false,Bool.false_and]) rfl
     ·skip
      exact calc_path goodG (oracleIMul hf) (cmul_p9 f t n a b c d) (obsB_yes h11 (obsB_yes h11 (obsB_yes h10 (obsB_yes h2 (obsB_yes h1 (obsB_yes h0 obsB_nil)))))) (by simp only[cMul,askI,allI,thenI,oneI,endsI,hullI,show(!((0:Int)==0))=false from rfl,show(!((11:Int)==0))=true from rfl,I.zero,h0,h1,h2,h10,h11,cT,cF,Bool.and_true,Bool.true_and,Bool.and_false,Bool.false_and]) rfl
    ·skip
     exact calc_path goodG (oracleIMul hf) (cmul_p10 f t n a b c d) (obsB_yes h10 (obsB_yes h10 (obsB_yes h10 (obsB_yes h2 (obsB_yes h1 (obsB_yes h0 obsB_nil)))))) (by simp only[cMul,askI,allI,thenI,oneI,endsI,hullI,show(!((0:Int)==0))=false from rfl,show(!((11:Int)==0))=true from rfl,I.zero,h0,h1,h2,h10,cT,cF,Bool.and_true,Bool.true_and,Bool.and_false,Bool.false_and]) rfl
 ·skip
  exact calc_path goodG (oracleIMul hf) (cmul_p11 f t n a b c d) (obsB_yes h0 obsB_nil) (by simp only[cMul,askI,allI,thenI,oneI,endsI,hullI,show(!((0:Int)==0))=false from rfl,show(!((11:Int)==0))=true from rfl,I.zero,h0,cT,cF,Bool.and_true,Bool.true_and,Bool.and_false,Bool.false_and]) rfl
def OIDiv(f:Bool->F->F->F×Int):OracleF:=lookO [(67,plainO oRt),(140,plainO oHas),(157,plainO (oI2 hullI)),(141,plainO (kTwo f))]
theorem oracleIDiv{f:Bool->F->F->F×Int}(hf:PlainOk prog 141 (kTwo f)):OracleOk prog (OIDiv f):= .cons irightG.of (.cons ihasG.of (.cons hullG.of (.cons hf.of (.nil _))))
theorem cdiv_p0(f:Bool->F->F->F×Int)(t:Nat)(n:Int)(a b c d:F):takeR 1 ((run prog EG (OIDiv f) 60).1 65 (.p 0 0:: [.agg [.fl a,.fl b],.agg [.fl c,.fl d]]) [⟨t,[.si .i64 n],.ex⟩] (some [false,false]))=some (.agg [.fl F.zero,.fl F.zero],[⟨t,[.i .i64 20],.ex⟩],some [],[(rt ⟨a,b⟩,false),((!(n==0)),false)]):=by kernel_rfl
theorem cdiv_p1(f:Bool->F->F->F×Int)(t:Nat)(n:Int)(a b c d:F):takeR 1 ((run prog EG (OIDiv f) 60).1 65 (.p 0 0:: [.agg [.fl a,.fl b],.agg [.fl c,.fl d]]) [⟨t,[.si .i64 n],.ex⟩] (some [false,true,false]))=some (.agg [.fl F.zero,.fl F.zero],[⟨t,[.i .i64 20],.ex⟩],some [],[(rt ⟨c,d⟩,false),(rt ⟨a,b⟩,true),((!(n==0)),false)]):=by kernel_rfl
theorem cdiv_p2(f:Bool->F->F->F×Int)(t:Nat)(n:Int)(a b c d:F):takeR 1 ((run prog EG (OIDiv f) 60).1 65 (.p 0 0:: [.agg [.fl a,.fl b],.agg [.fl c,.fl d]]) [⟨t,[.si .i64 n],.ex⟩] (some [false,true,true,false,false,false,false,false,false,false,false,false]))=some (.agg [.fl (mnF (mnF (mnF (mnF (f false a c).1 (f false a c).1) (f false a d).1) (f false b c).1) (f false b d).1),.fl (mxF (mxF (mxF (mxF (f true a c).1 (f true a c).1) (f true a d).1) (f true b c).1) (f true b d).1)],[⟨t,[.si .i64 n],.ex⟩],some [],[((!((f true b d).2==0)),false),((!((f false b d).2==0)),false),((!((f true b c).2==0)),false),((!((f false b c).2==0)),false),((!((f true a d).2==0)),false),((!((f false a d).2==0)),false),((!((f true a c).2==0)),false),((!((f false a c).2==0)),false),(hasB ⟨c,d⟩ F.zero,false),(rt ⟨c,d⟩,true),(rt ⟨a,b⟩,true),((!(n==0)),false)]):=by kernel_rfl
theorem cdiv_p3(f:Bool->F->F->F×Int)(t:Nat)(n:Int)(a b c d:F):takeR 1 ((run prog EG (OIDiv f) 60).1 65 (.p 0 0:: [.agg [.fl a,.fl b],.agg [.fl c,.fl d]]) [⟨t,[.si .i64 n],.ex⟩] (some [false,true,true,false,false,false,false,false,false,false,false,true,true]))=some (.agg [.fl F.zero,.fl F.zero],[⟨t,[.si .i64 (f true b d).2],.ex⟩],some [],[((!((f true b d).2==0)),true),((!((f true b d).2==0)),true),((!((f false b d).2==0)),false),((!((f true b c).2==0)),false),((!((f false b c).2==0)),false),((!((f true a d).2==0)),false),((!((f false a d).2==0)),false),((!((f true a c).2==0)),false),((!((f false a c).2==0)),false),(hasB ⟨c,d⟩ F.zero,false),(rt ⟨c,d⟩,true),(rt ⟨a,b⟩,true),((!(n==0)),false)]):=by kernel_rfl
theorem cdiv_p4(f:Bool->F->F->F×Int)(t:Nat)(n:Int)(a b c d:F):takeR 1 ((run prog EG (OIDiv f) 60).1 65 (.p 0 0:: [.agg [.fl a,.fl b],.agg [.fl c,.fl d]]) [⟨t,[.si .i64 n],.ex⟩] (some [false,true,true,false,false,false,false,false,false,false,true,true,true]))=some (.agg [.fl F.zero,.fl F.zero],[⟨t,[.si .i64 (f false b d).2],.ex⟩],some [],[((!((f false b d).2==0)),true),((!((f false b d).2==0)),true),((!((f false b d).2==0)),true),((!((f true b c).2==0)),false),((!((f false b c).2==0)),false),((!((f true a d).2==0)),false),((!((f false a d).2==0)),false),((!((f true a c).2==0)),false),((!((f false a c).2==0)),false),(hasB ⟨c,d⟩ F.zero,false),(rt ⟨c,d⟩,true),(rt ⟨a,b⟩,true),((!(n==0)),false)]):=by kernel_rfl
theorem cdiv_p5(f:Bool->F->F->F×Int)(t:Nat)(n:Int)(a b c d:F):takeR 1 ((run prog EG (OIDiv f) 60).1 65 (.p 0 0:: [.agg [.fl a,.fl b],.agg [.fl c,.fl d]]) [⟨t,[.si .i64 n],.ex⟩] (some [false,true,true,false,false,false,false,false,false,true,true]))=some (.agg [.fl F.zero,.fl F.zero],[⟨t,[.si .i64 (f true b c).2],.ex⟩],some [],[((!((f true b c).2==0)),true),((!((f true b c).2==0)),true),((!((f false b c).2==0)),false),((!((f true a d).2==0)),false),((!((f false a d).2==0)),false),((!((f true a c).2==0)),false),((!((f false a c).2==0)),false),(hasB ⟨c,d⟩ F.zero,false),(rt ⟨c,d⟩,true),(rt ⟨a,b⟩,true),((!(n==0)),false)]):=by kernel_rfl
theorem cdiv_p6(f:Bool->F->F->F×Int)(t:Nat)(n:Int)(a b c d:F):takeR 1 ((run prog EG (OIDiv f) 60).1 65 (.p 0 0:: [.agg [.fl a,.fl b],.agg [.fl c,.fl d]]) [⟨t,[.si .i64 n],.ex⟩] (some [false,true,true,false,false,false,false,false,true,true,true]))=some (.agg [.fl F.zero,.fl F.zero],[⟨t,[.si .i64 (f false b c).2],.ex⟩],some [],[((!((f false b c).2==0)),true),((!((f false b c).2==0)),true),((!((f false b c).2==0)),true),((!((f true a d).2==0)),false),((!((f false a d).2==0)),false),((!((f true a c).2==0)),false),((!((f false a c).2==0)),false),(hasB ⟨c,d⟩ F.zero,false),(rt ⟨c,d⟩,true),(rt ⟨a,b⟩,true),((!(n==0)),false)]):=by kernel_rfl
theorem cdiv_p7(f:Bool->F->F->F×Int)(t:Nat)(n:Int)(a b c d:F):takeR 1 ((run prog EG (OIDiv f) 60).1 65 (.p 0 0:: [.agg [.fl a,.fl b],.agg [.fl c,.fl d]]) [⟨t,[.si .i64 n],.ex⟩] (some [false,true,true,false,false,false,false,true,true]))=some (.agg [.fl F.zero,.fl F.zero],[⟨t,[.si .i64 (f true a d).2],.ex⟩],some [],[((!((f true a d).2==0)),true),((!((f true a d).2==0)),true),((!((f false a d).2==0)),false),((!((f true a c).2==0)),false),((!((f false a c).2==0)),false),(hasB ⟨c,d⟩ F.zero,false),(rt ⟨c,d⟩,true),(rt ⟨a,b⟩,true),((!(n==0)),false)]):=by kernel_rfl
theorem cdiv_p8(f:Bool->F->F->F×Int)(t:Nat)(n:Int)(a b c d:F):takeR 1 ((run prog EG (OIDiv f) 60).1 65 (.p 0 0:: [.agg [.fl a,.fl b],.agg [.fl c,.fl d]]) [⟨t,[.si .i64 n],.ex⟩] (some [false,true,true,false,false,false,true,true,true]))=some (.agg [.fl F.zero,.fl F.zero],[⟨t,[.si .i64 (f false a d).2],.ex⟩],some [],[((!((f false a d).2==0)),true),((!((f false a d).2==0)),true),((!((f false a d).2==0)),true),((!((f true a c).2==0)),false),((!((f false a c).2==0)),false),(hasB ⟨c,d⟩ F.zero,false),(rt ⟨c,d⟩,true),(rt ⟨a,b⟩,true),((!(n==0)),false)]):=by kernel_rfl
theorem cdiv_p9(f:Bool->F->F->F×Int)(t:Nat)(n:Int)(a b c d:F):takeR 1 ((run prog EG (OIDiv f) 60).1 65 (.p 0 0:: [.agg [.fl a,.fl b],.agg [.fl c,.fl d]]) [⟨t,[.si .i64 n],.ex⟩] (some [false,true,true,false,false,true,true]))=some (.agg [.fl F.zero,.fl F.zero],[⟨t,[.si .i64 (f true a c).2],.ex⟩],some [],[((!((f true a c).2==0)),true),((!((f true a c).2==0)),true),((!((f false a c).2==0)),false),(hasB ⟨c,d⟩ F.zero,false),(rt ⟨c,d⟩,true),(rt ⟨a,b⟩,true),((!(n==0)),false)]):=by kernel_rfl
theorem cdiv_p10(f:Bool->F->F->F×Int)(t:Nat)(n:Int)(a b c d:F):takeR 1 ((run prog EG (OIDiv f) 60).1 65 (.p 0 0:: [.agg [.fl a,.fl b],.agg [.fl c,.fl d]]) [⟨t,[.si .i64 n],.ex⟩] (some [false,true,true,false,true,true,true]))=some (.agg [.fl F.zero,.fl F.zero],[⟨t,[.si .i64 (f false a c).2],.ex⟩],some [],[((!((f false a c).2==0)),true),((!((f false a c).2==0)),true),((!((f false a c).2==0)),true),(hasB ⟨c,d⟩ F.zero,false),(rt ⟨c,d⟩,true),(rt ⟨a,b⟩,true),((!(n==0)),false)]):=by kernel_rfl
theorem cdiv_p11(f:Bool->F->F->F×Int)(t:Nat)(n:Int)(a b c d:F):takeR 1 ((run prog EG (OIDiv f) 60).1 65 (.p 0 0:: [.agg [.fl a,.fl b],.agg [.fl c,.fl d]]) [⟨t,[.si .i64 n],.ex⟩] (some [false,true,true,true]))=some (.agg [.fl F.zero,.fl F.zero],[⟨t,[.i .i64 11],.ex⟩],some [],[(hasB ⟨c,d⟩ F.zero,true),(rt ⟨c,d⟩,true),(rt ⟨a,b⟩,true),((!(n==0)),false)]):=by kernel_rfl
theorem cdiv_p12(f:Bool->F->F->F×Int)(t:Nat)(n:Int)(a b c d:F):takeR 1 ((run prog EG (OIDiv f) 60).1 65 (.p 0 0:: [.agg [.fl a,.fl b],.agg [.fl c,.fl d]]) [⟨t,[.si .i64 n],.ex⟩] (some [true]))=some (.agg [.fl F.zero,.fl F.zero],[⟨t,[.si .i64 n],.ex⟩],some [],[((!(n==0)),true)]):=by kernel_rfl
theorem cdiv_I{f:Bool->F->F->F×Int}(hf:PlainOk prog 141 (kTwo f)):OfOk prog 65 (kC (aII (cDiv f))):=by
 refine ofII fun a b c d t n=> ?_;cases h0:(!(n==0))
 ·skip
  cases h1:rt ⟨a,b⟩
  ·skip
   exact calc_path goodG (oracleIDiv hf) (cdiv_p0 f t n a b c d) (obsB_yes h1 (obsB_yes h0 obsB_nil)) (by simp only[cDiv,askI,allI,thenI,oneI,endsI,hullI,show(!((0:Int)==0))=false from rfl,show(!((11:Int)==0))=true from rfl,I.zero,h0,h1,cT,cF,Bool.and_true,Bool.true_and,Bool.and_false,Bool.false_and]) rfl
  ·skip
   cases h2:rt ⟨c,d⟩
   ·skip
    exact calc_path goodG (oracleIDiv hf) (cdiv_p1 f t n a b c d) (obsB_yes h2 (obsB_yes h1 (obsB_yes h0 obsB_nil))) (by simp only[cDiv,askI,allI,thenI,oneI,endsI,hullI,show(!((0:Int)==0))=false from rfl,show(!((11:Int)==0))=true from rfl,I.zero,h0,h1,h2,cT,cF,Bool.and_true,Bool.true_and,Bool.and_false,Bool.false_and]) rfl
   ·skip
    cases h9:hasB ⟨c,d⟩ F.zero
    ·skip
     cases h10:(!((f false a c).2==0))
     ·skip
      cases h11:(!((f true a c).2==0))
      ·skip
       cases h12:(!((f false a d).2==0))
       ·skip
        cases h13:(!((f true a d).2==0))
        ·skip
         cases h14:(!((f false b c).2==0))
         ·skip
          cases h15:(!((f true b c).2==0))
          ·skip
           cases h16:(!((f false b d).2==0))
           ·skip
            cases h17:(!((f true b d).2==0))
            ·skip
             exact calc_path goodG (oracleIDiv hf) (cdiv_p2 f t n a b c d) (obsB_yes h17 (obsB_yes h16 (obsB_yes h15 (obsB_yes h14 (obsB_yes h13 (obsB_yes h12 (obsB_yes h11 (obsB_yes h10 (obsB_yes h9 (obsB_yes h2 (obsB_yes h1 (obsB_yes h0 obsB_nil)))))))))))) (by simp only[cDiv,askI,allI,thenI,oneI,endsI,hullI,show(!((0:Int)==0))=false from rfl,show(!((11:Int)==0))=true from rfl,I.zero,h0,h1,h2,h9,h10,h11,h12,h13,h14,h15,h16,h17,cT,cF,Bool.and_true,Bool.true_and,Bool.and_false,Bool.false_and]) rfl
            ·skip
             exact calc_path goodG (oracleIDiv hf) (cdiv_p3 f t n a b c d) (obsB_yes h17 (obsB_yes h17 (obsB_yes h16 (obsB_yes h15 (obsB_yes h14 (obsB_yes h13 (obsB_yes h12 (obsB_yes h11 (obsB_yes h10 (obsB_yes h9 (obsB_yes h2 (obsB_yes h1 (obsB_yes h0 obsB_nil))))))))))))) (by simp only[cDiv,askI,allI,thenI,oneI,endsI,hullI,show(!((0:Int)==0))=false from rfl,show(!((11:Int)==0))=true from rfl,I.zero,h0,h1,h2,h9,h10,h11,h12,h13,h14,h15,h16,h17,cT,cF,Bool.and_true,Bool.true_and,Bool.and_false,Bool.false_and]) rfl
           ·skip
            exact calc_path goodG (oracleIDiv hf) (cdiv_p4 f t n a b c d) (obsB_yes h16 (obsB_yes h16 (obsB_yes h16 (obsB_yes h15 (obsB_yes h14 (obsB_yes h13 (obsB_yes h12 (obsB_yes h11 (obsB_yes h10 (obsB_yes h9 (obsB_yes h2 (obsB_yes h1 (obsB_yes h0 obsB_nil))))))))))))) (by simp only[cDiv,askI,allI,thenI,oneI,endsI,hullI,show(!((0:Int)==0))=false from rfl,show(!((11:Int)==0))=true from rfl,I.zero,h0,h1,h2,h9,h10,h11,h12,h13,h14,h15,h16,cT,cF,Bool.and_true,Bool.true_and,Bool.and_false,Bool.false_and]) rfl
          ·skip
           exact calc_path goodG (oracleIDiv hf) (cdiv_p5 f t n a b c d) (obsB_yes h15 (obsB_yes h15 (obsB_yes h14 (obsB_yes h13 (obsB_yes h12 (obsB_yes h11 (obsB_yes h10 (obsB_yes h9 (obsB_yes h2 (obsB_yes h1 (obsB_yes h0 obsB_nil))))))))))) (by simp only[cDiv,askI,allI,thenI,oneI,endsI,hullI,show(!((0:Int)==0))=false from rfl,show(!((11:Int)==0))=true from rfl,I.zero,h0,h1,h2,h9,h10,h11,h12,h13,h14,h15,cT,cF,Bool.and_true,Bool.true_and,Bool.and_false,Bool.false_and]) rfl
         ·skip
          exact calc_path goodG (oracleIDiv hf) (cdiv_p6 f t n a b c d) (obsB_yes h14 (obsB_yes h14 (obsB_yes h14 (obsB_yes h13 (obsB_yes h12 (obsB_yes h11 (obsB_yes h10 (obsB_yes h9 (obsB_yes h2 (obsB_yes h1 (obsB_yes h0 obsB_nil))))))))))) (by simp only[cDiv,askI,allI,thenI,oneI,endsI,hullI,show(!((0:Int)==0))=false from rfl,show(!((11:Int)==0))=true from rfl,I.zero,h0,h1,h2,h9,h10,h11,h12,h13,h14,cT,cF,Bool.and_true,Bool.true_and,Bool.and_false,Bool.false_and]) rfl
        ·skip
         exact calc_path goodG (oracleIDiv hf) (cdiv_p7 f t n a b c d) (obsB_yes h13 (obsB_yes h13 (obsB_yes h12 (obsB_yes h11 (obsB_yes h10 (obsB_yes h9 (obsB_yes h2 (obsB_yes h1 (obsB_yes h0 obsB_nil))))))))) (by simp only[cDiv,askI,allI,thenI,oneI,endsI,hullI,show(!((0:Int)==0))=false from rfl,show(!((11:Int)==0))=true from rfl,I.zero,h0,h1,h2,h9,h10,h11,h12,h13,cT,cF,Bool.and_true,Bool.true_and,Bool.and_false,Bool.false_and]) rfl
       ·skip
        exact calc_path goodG (oracleIDiv hf) (cdiv_p8 f t n a b c d) (obsB_yes h12 (obsB_yes h12 (obsB_yes h12 (obsB_yes h11 (obsB_yes h10 (obsB_yes h9 (obsB_yes h2 (obsB_yes h1 (obsB_yes h0 obsB_nil))))))))) (by simp only[cDiv,askI,allI,thenI,oneI,endsI,hullI,show(!((0:Int)==0))=false from rfl,show(!((11:Int)==0))=true from rfl,I.zero,h0,h1,h2,h9,h10,h11,h12,cT,cF,Bool.and_true,Bool.true_and,Bool.and_false,Bool.false_and]) rfl
      ·skip
       exact calc_path goodG (oracleIDiv hf) (cdiv_p9 f t n a b c d) (obsB_yes h11 (obsB_yes h11 (obsB_yes h10 (obsB_yes h9 (obsB_yes h2 (obsB_yes h1 (obsB_yes h0 obsB_nil))))))) (by simp only[cDiv,askI,allI,thenI,oneI,endsI,hullI,show(!((0:Int)==0))=false from rfl,show(!((11:Int)==0))=true from rfl,I.zero,h0,h1,h2,h9,h10,h11,cT,cF,Bool.and_true,Bool.true_and,Bool.and_false,Bool.false_and]) rfl
     ·skip
      exact calc_path goodG (oracleIDiv hf) (cdiv_p10 f t n a b c d) (obsB_yes h10 (obsB_yes h10 (obsB_yes h10 (obsB_yes h9 (obsB_yes h2 (obsB_yes h1 (obsB_yes h0 obsB_nil))))))) (by simp only[cDiv,askI,allI,thenI,oneI,endsI,hullI,show(!((0:Int)==0))=false from rfl,show(!((11:Int)==0))=true from rfl,I.zero,h0,h1,h2,h9,h10,cT,cF,Bool.and_true,Bool.true_and,Bool.and_false,Bool.false_and]) rfl
    ·skip
     exact calc_path goodG (oracleIDiv hf) (cdiv_p11 f t n a b c d) (obsB_yes h9 (obsB_yes h2 (obsB_yes h1 (obsB_yes h0 obsB_nil)))) (by simp only[cDiv,askI,allI,thenI,oneI,endsI,hullI,show(!((0:Int)==0))=false from rfl,show(!((11:Int)==0))=true from rfl,I.zero,h0,h1,h2,h9,cT,cF,Bool.and_true,Bool.true_and,Bool.and_false,Bool.false_and]) rfl
 ·skip
  exact calc_path goodG (oracleIDiv hf) (cdiv_p12 f t n a b c d) (obsB_yes h0 obsB_nil) (by simp only[cDiv,askI,allI,thenI,oneI,endsI,hullI,show(!((0:Int)==0))=false from rfl,show(!((11:Int)==0))=true from rfl,I.zero,h0,cT,cF,Bool.and_true,Bool.true_and,Bool.and_false,Bool.false_and]) rfl
def OISqr(f:Bool->F->F->F×Int):OracleF:=lookO [(67,plainO oRt),(101,plainO (oI1 bareI)),(81,plainO (kTwo f))]
theorem oracleISqr{f:Bool->F->F->F×Int}(hf:PlainOk prog 81 (kTwo f)):OracleOk prog (OISqr f):= .cons irightG.of (.cons bareG.of (.cons hf.of (.nil _)))
theorem csqr_p0(f:Bool->F->F->F×Int)(t:Nat)(n:Int)(a b:F):takeR 1 ((run prog EG (OISqr f) 60).1 40 (.p 0 0:: [.agg [.fl a,.fl b]]) [⟨t,[.si .i64 n],.ex⟩] (some [false,false]))=some (.agg [.fl F.zero,.fl F.zero],[⟨t,[.i .i64 20],.ex⟩],some [],[(rt ⟨a,b⟩,false),((!(n==0)),false)]):=by kernel_rfl
theorem csqr_p1(f:Bool->F->F->F×Int)(t:Nat)(n:Int)(a b:F):takeR 1 ((run prog EG (OISqr f) 60).1 40 (.p 0 0:: [.agg [.fl a,.fl b]]) [⟨t,[.si .i64 n],.ex⟩] (some [false,true,false,false]))=some (.agg [.fl (f false (bareI ⟨a,b⟩).lo (bareI ⟨a,b⟩).lo).1,.fl (f true (bareI ⟨a,b⟩).hi (bareI ⟨a,b⟩).hi).1],[⟨t,[.si .i64 n],.ex⟩],some [],[((!((f true (bareI ⟨a,b⟩).hi (bareI ⟨a,b⟩).hi).2==0)),false),((!((f false (bareI ⟨a,b⟩).lo (bareI ⟨a,b⟩).lo).2==0)),false),(rt ⟨a,b⟩,true),((!(n==0)),false)]):=by kernel_rfl
theorem csqr_p2(f:Bool->F->F->F×Int)(t:Nat)(n:Int)(a b:F):takeR 1 ((run prog EG (OISqr f) 60).1 40 (.p 0 0:: [.agg [.fl a,.fl b]]) [⟨t,[.si .i64 n],.ex⟩] (some [false,true,false,true]))=some (.agg [.fl F.zero,.fl F.zero],[⟨t,[.si .i64 (f true (bareI ⟨a,b⟩).hi (bareI ⟨a,b⟩).hi).2],.ex⟩],some [],[((!((f true (bareI ⟨a,b⟩).hi (bareI ⟨a,b⟩).hi).2==0)),true),((!((f false (bareI ⟨a,b⟩).lo (bareI ⟨a,b⟩).lo).2==0)),false),(rt ⟨a,b⟩,true),((!(n==0)),false)]):=by kernel_rfl
theorem csqr_p3(f:Bool->F->F->F×Int)(t:Nat)(n:Int)(a b:F):takeR 1 ((run prog EG (OISqr f) 60).1 40 (.p 0 0:: [.agg [.fl a,.fl b]]) [⟨t,[.si .i64 n],.ex⟩] (some [false,true,true,true]))=some (.agg [.fl F.zero,.fl F.zero],[⟨t,[.si .i64 (f false (bareI ⟨a,b⟩).lo (bareI ⟨a,b⟩).lo).2],.ex⟩],some [],[((!((f false (bareI ⟨a,b⟩).lo (bareI ⟨a,b⟩).lo).2==0)),true),((!((f false (bareI ⟨a,b⟩).lo (bareI ⟨a,b⟩).lo).2==0)),true),(rt ⟨a,b⟩,true),((!(n==0)),false)]):=by kernel_rfl
theorem csqr_p4(f:Bool->F->F->F×Int)(t:Nat)(n:Int)(a b:F):takeR 1 ((run prog EG (OISqr f) 60).1 40 (.p 0 0:: [.agg [.fl a,.fl b]]) [⟨t,[.si .i64 n],.ex⟩] (some [true]))=some (.agg [.fl F.zero,.fl F.zero],[⟨t,[.si .i64 n],.ex⟩],some [],[((!(n==0)),true)]):=by kernel_rfl
theorem csqr_I{f:Bool->F->F->F×Int}(hf:PlainOk prog 81 (kTwo f)):OfOk prog 40 (kC (aI (cSqr f))):=by
 refine ofI fun a b t n=> ?_;cases h0:(!(n==0))
 ·skip
  cases h1:rt ⟨a,b⟩
  ·skip
   exact calc_path goodG (oracleISqr hf) (csqr_p0 f t n a b) (obsB_yes h1 (obsB_yes h0 obsB_nil)) (by simp only[cSqr,askI,endsI,I.zero,h0,h1,cT,cF,Bool.and_true,Bool.true_and,Bool.and_false,Bool.false_and]) rfl
  ·skip
   cases h3:(!((f false (bareI ⟨a,b⟩).lo (bareI ⟨a,b⟩).lo).2==0))
   ·skip
    cases h4:(!((f true (bareI ⟨a,b⟩).hi (bareI ⟨a,b⟩).hi).2==0))
    ·skip
     exact calc_path goodG (oracleISqr hf) (csqr_p1 f t n a b) (obsB_yes h4 (obsB_yes h3 (obsB_yes h1 (obsB_yes h0 obsB_nil)))) (by simp only[cSqr,askI,endsI,I.zero,h0,h1,h3,h4,cT,cF,Bool.and_true,Bool.true_and,Bool.and_false,Bool.false_and]) rfl
    ·skip
     exact calc_path goodG (oracleISqr hf) (csqr_p2 f t n a b) (obsB_yes h4 (obsB_yes h3 (obsB_yes h1 (obsB_yes h0 obsB_nil)))) (by simp only[cSqr,askI,endsI,I.zero,h0,h1,h3,h4,cT,cF,Bool.and_true,Bool.true_and,Bool.and_false,Bool.false_and]) rfl
   ·skip
    exact calc_path goodG (oracleISqr hf) (csqr_p3 f t n a b) (obsB_yes h3 (obsB_yes h3 (obsB_yes h1 (obsB_yes h0 obsB_nil)))) (by simp only[cSqr,askI,endsI,I.zero,h0,h1,h3,cT,cF,Bool.and_true,Bool.true_and,Bool.and_false,Bool.false_and]) rfl
 ·skip
  exact calc_path goodG (oracleISqr hf) (csqr_p4 f t n a b) (obsB_yes h0 obsB_nil) (by simp only[cSqr,askI,endsI,I.zero,h0,cT,cF,Bool.and_true,Bool.true_and,Bool.and_false,Bool.false_and]) rfl
def OIN:OracleF:=lookO [(60,plainO oRight),(67,plainO oRt),(169,plainO (oI1 turnI)),(101,plainO (oI1 bareI))]
theorem oracleIN:OracleOk prog OIN:= .cons rightG.of (.cons irightG.of (.cons turnG.of (.cons bareG.of (.nil _))))
theorem cnum_p0 (t:Nat)(n:Int)(a:F):takeR 1 ((run prog EG (OIN) 60).1 35 (.p 0 0:: [.fl a]) [⟨t,[.si .i64 n],.ex⟩] (some [false]))=some (.agg [.fl a,.fl a],[⟨t,[.si .i64 n],.ex⟩],some [],[((!(n==0)),false)]):=by kernel_rfl
theorem cnum_p1 (t:Nat)(n:Int)(a:F):takeR 1 ((run prog EG (OIN) 60).1 35 (.p 0 0:: [.fl a]) [⟨t,[.si .i64 n],.ex⟩] (some [true]))=some (.agg [.fl F.zero,.fl F.zero],[⟨t,[.si .i64 n],.ex⟩],some [],[((!(n==0)),true)]):=by kernel_rfl
theorem cnum_I :OfOk prog 35 (kC (aF cNum)):=by
 refine ofF fun a t n=> ?_;cases h0:(!(n==0))
 ·skip
  exact calc_path goodG oracleIN (cnum_p0 t n a) (obsB_yes h0 obsB_nil) (by simp only[cNum,askI,show(!((0:Int)==0))=false from rfl,I.zero,h0,cT,cF,Bool.and_true,Bool.true_and,Bool.and_false,Bool.false_and]) rfl
 ·skip
  exact calc_path goodG oracleIN (cnum_p1 t n a) (obsB_yes h0 obsB_nil) (by simp only[cNum,askI,show(!((0:Int)==0))=false from rfl,I.zero,h0,cT,cF,Bool.and_true,Bool.true_and,Bool.and_false,Bool.false_and]) rfl
theorem cneg_p0 (t:Nat)(n:Int)(a b:F):takeR 1 ((run prog EG (OIN) 60).1 109 (.p 0 0:: [.agg [.fl a,.fl b]]) [⟨t,[.si .i64 n],.ex⟩] (some [false,false]))=some (.agg [.fl F.zero,.fl F.zero],[⟨t,[.i .i64 20],.ex⟩],some [],[(rt ⟨a,b⟩,false),((!(n==0)),false)]):=by kernel_rfl
theorem cneg_p1 (t:Nat)(n:Int)(a b:F):takeR 1 ((run prog EG (OIN) 60).1 109 (.p 0 0:: [.agg [.fl a,.fl b]]) [⟨t,[.si .i64 n],.ex⟩] (some [false,true]))=some (.agg [.fl b.neg,.fl a.neg],[⟨t,[.si .i64 n],.ex⟩],some [],[(rt ⟨a,b⟩,true),((!(n==0)),false)]):=by kernel_rfl
theorem cneg_p2 (t:Nat)(n:Int)(a b:F):takeR 1 ((run prog EG (OIN) 60).1 109 (.p 0 0:: [.agg [.fl a,.fl b]]) [⟨t,[.si .i64 n],.ex⟩] (some [true]))=some (.agg [.fl F.zero,.fl F.zero],[⟨t,[.si .i64 n],.ex⟩],some [],[((!(n==0)),true)]):=by kernel_rfl
theorem cneg_I :OfOk prog 109 (kC (aI cNeg)):=by
 refine ofI fun a b t n=> ?_;cases h0:(!(n==0))
 ·skip
  cases h1:rt ⟨a,b⟩
  ·skip
   exact calc_path goodG oracleIN (cneg_p0 t n a b) (obsB_yes h1 (obsB_yes h0 obsB_nil)) (by simp only[cNeg,turnI,askI,show(!((0:Int)==0))=false from rfl,I.zero,h0,h1,cT,cF,Bool.and_true,Bool.true_and,Bool.and_false,Bool.false_and]) rfl
  ·skip
   exact calc_path goodG oracleIN (cneg_p1 t n a b) (obsB_yes h1 (obsB_yes h0 obsB_nil)) (by simp only[cNeg,turnI,askI,show(!((0:Int)==0))=false from rfl,I.zero,h0,h1,cT,cF,Bool.and_true,Bool.true_and,Bool.and_false,Bool.false_and]) rfl
 ·skip
  exact calc_path goodG oracleIN (cneg_p2 t n a b) (obsB_yes h0 obsB_nil) (by simp only[cNeg,turnI,askI,show(!((0:Int)==0))=false from rfl,I.zero,h0,cT,cF,Bool.and_true,Bool.true_and,Bool.and_false,Bool.false_and]) rfl
theorem cmax_p0 (t:Nat)(n:Int)(a b c d:F):takeR 1 ((run prog EG (OIN) 60).1 38 (.p 0 0:: [.agg [.fl a,.fl b],.agg [.fl c,.fl d]]) [⟨t,[.si .i64 n],.ex⟩] (some [false,false]))=some (.agg [.fl F.zero,.fl F.zero],[⟨t,[.i .i64 20],.ex⟩],some [],[(rt ⟨a,b⟩,false),((!(n==0)),false)]):=by kernel_rfl
theorem cmax_p1 (t:Nat)(n:Int)(a b c d:F):takeR 1 ((run prog EG (OIN) 60).1 38 (.p 0 0:: [.agg [.fl a,.fl b],.agg [.fl c,.fl d]]) [⟨t,[.si .i64 n],.ex⟩] (some [false,true,false]))=some (.agg [.fl F.zero,.fl F.zero],[⟨t,[.i .i64 20],.ex⟩],some [],[(rt ⟨c,d⟩,false),(rt ⟨a,b⟩,true),((!(n==0)),false)]):=by kernel_rfl
theorem cmax_p2 (t:Nat)(n:Int)(a b c d:F):takeR 1 ((run prog EG (OIN) 60).1 38 (.p 0 0:: [.agg [.fl a,.fl b],.agg [.fl c,.fl d]]) [⟨t,[.si .i64 n],.ex⟩] (some [false,true,true]))=some (.agg [.fl (mxF a c),.fl (mxF b d)],[⟨t,[.si .i64 n],.ex⟩],some [],[(rt ⟨c,d⟩,true),(rt ⟨a,b⟩,true),((!(n==0)),false)]):=by kernel_rfl
theorem cmax_p3 (t:Nat)(n:Int)(a b c d:F):takeR 1 ((run prog EG (OIN) 60).1 38 (.p 0 0:: [.agg [.fl a,.fl b],.agg [.fl c,.fl d]]) [⟨t,[.si .i64 n],.ex⟩] (some [true]))=some (.agg [.fl F.zero,.fl F.zero],[⟨t,[.si .i64 n],.ex⟩],some [],[((!(n==0)),true)]):=by kernel_rfl
theorem cmax_I :OfOk prog 38 (kC (aII cMax)):=by
 refine ofII fun a b c d t n=> ?_;cases h0:(!(n==0))
 ·skip
  cases h1:rt ⟨a,b⟩
  ·skip
   exact calc_path goodG oracleIN (cmax_p0 t n a b c d) (obsB_yes h1 (obsB_yes h0 obsB_nil)) (by simp only[cMax,maxI,askI,show(!((0:Int)==0))=false from rfl,I.zero,h0,h1,cT,cF,Bool.and_true,Bool.true_and,Bool.and_false,Bool.false_and]) rfl
  ·skip
   cases h2:rt ⟨c,d⟩
   ·skip
    exact calc_path goodG oracleIN (cmax_p1 t n a b c d) (obsB_yes h2 (obsB_yes h1 (obsB_yes h0 obsB_nil))) (by simp only[cMax,maxI,askI,show(!((0:Int)==0))=false from rfl,I.zero,h0,h1,h2,cT,cF,Bool.and_true,Bool.true_and,Bool.and_false,Bool.false_and]) rfl
   ·skip
    exact calc_path goodG oracleIN (cmax_p2 t n a b c d) (obsB_yes h2 (obsB_yes h1 (obsB_yes h0 obsB_nil))) (by simp only[cMax,maxI,askI,show(!((0:Int)==0))=false from rfl,I.zero,h0,h1,h2,cT,cF,Bool.and_true,Bool.true_and,Bool.and_false,Bool.false_and]) rfl
 ·skip
  exact calc_path goodG oracleIN (cmax_p3 t n a b c d) (obsB_yes h0 obsB_nil) (by simp only[cMax,maxI,askI,show(!((0:Int)==0))=false from rfl,I.zero,h0,cT,cF,Bool.and_true,Bool.true_and,Bool.and_false,Bool.false_and]) rfl
end Go.Proofs.YtejcekikbnlllaaGreat
namespace Bu
open Rx
theorem S_ne:(S:Rat)≠0:=by intro h;have:=S_pos;have h2:((S:Nat):Rat)=((0:Nat):Rat):=h;have h3:=Rat.natCast_inj.1 h2;omega
theorem S_gt:(0:Rat)<(S:Rat):=by
 have:=Rat.natCast_lt_natCast.2 S_pos
 simpa using this
def F.q(x:F):Rat:=(x.z:Rat)/(S:Rat)
theorem F.q_mul(x:F):x.q*(S:Rat)=(x.z:Rat):=Rat.div_mul_cancel S_ne
theorem q_le_z{a b:F}:a.q<=b.q↔a.z<=b.z:=by
 constructor
 ·intro h;have h1:=Rat.mul_le_mul_of_nonneg_right h (Rat.le_of_lt S_gt);rw[F.q_mul,F.q_mul]at h1;exact Rat.intCast_le_intCast.1 h1
 ·intro h;have h1:=Rat.intCast_le_intCast.2 h;rw[<-F.q_mul,<-F.q_mul]at h1;exact Rat.le_of_mul_le_mul_right h1 S_gt
theorem q_le{a b:F}:a.q<=b.q↔a.k<=b.k:=by rw[q_le_z,F.z_le]
theorem q_lt{a b:F}:a.q<b.q↔a.k<b.k:=by rw[<-Rat.not_le,q_le];omega
theorem q_inj{a b:F}(h:a.q=b.q):a=b:=by have h1:=q_le.1 (show a.q<=b.q by rw[h];exact Rat.le_refl);have h2:=q_le.1 (show b.q<=a.q by rw[h];exact Rat.le_refl);exact F.ext' (by omega)
theorem q_zero:F.zero.q=0:=by unfold F.q;rw[F.zero_z,Rat.div_def];simp
theorem q_neg(x:F):x.neg.q= -x.q:=by unfold F.q;rw[F.neg_z,Rat.div_def,Rat.div_def];simp[Rat.neg_mul]
theorem z_le_iff{x:F}{A:Int}{B:Nat}(hB:0<B):x.z*(B:Int)<=A↔x.q<=(A:Rat)/((S:Rat)*(B:Rat)):=by
 have hb:(0:Rat)<(B:Rat):=by have:=Rat.natCast_lt_natCast.2 hB;simpa using this
 have hsb:(0:Rat)<(S:Rat)*(B:Rat):=Rat.mul_pos S_gt hb;have e:x.q*((S:Rat)*(B:Rat))=((x.z*(B:Int):Int):Rat):=by rw[<-Rat.mul_assoc,F.q_mul,Rat.intCast_mul];rfl
 have e2:(A:Rat)/((S:Rat)*(B:Rat))*((S:Rat)*(B:Rat))=(A:Rat):=Rat.div_mul_cancel (by grind);constructor
 ·intro h;have h1:=Rat.intCast_le_intCast.2 h;rw[<-e,<-e2]at h1;exact Rat.le_of_mul_le_mul_right h1 hsb
 ·intro h;have h1:=Rat.mul_le_mul_of_nonneg_right h (Rat.le_of_lt hsb);rw[e,e2]at h1;exact Rat.intCast_le_intCast.1 h1
structure Dn (r:F) (v:Rat):Prop where
 le:r.q<=v
 top:∀c:F,c.q<=v->c.q<=r.q
structure Up (r:F) (v:Rat):Prop where
 ge:v<=r.q
 bot:∀c:F,v<=c.q->r.q<=c.q
theorem rat_le_iff{x:F}{A:Int}{B:Nat}(hB:0<B):A<=x.z*(B:Int)↔(A:Rat)/((S:Rat)*(B:Rat))<=x.q:=by
 have h:= @z_le_iff x.neg (-A) B hB;rw[F.neg_z,q_neg]at h;have e:((-A:Int):Rat)/((S:Rat)*(B:Rat))= -((A:Rat)/((S:Rat)*(B:Rat))):=by rw[Rat.div_def,Rat.div_def,Rat.intCast_neg,Rat.neg_mul]
 rw[e]at h;constructor
 ·intro g;have:=h.1 (by rw[Int.neg_mul];omega);grind
 ·intro g;have:=h.2 (by grind);rw[Int.neg_mul]at this;omega
theorem rndR_dn{A:Int}{B:Nat}{v:Rat}(hB:0<B)(hv:(A:Rat)/((S:Rat)*(B:Rat))=v)(c:F)(hc:c.q<=v):∃r,rndR false A B=(r,0)/\Dn r v:=by
 subst hv;have hk:∀x:F,x.k<=flI A B↔x.q<=(A:Rat)/((S:Rat)*(B:Rat)):=fun x=>by rw[le_flI hB,<-z_le_iff hB];rfl
 have h1:=(hk c).2 hc;have h2:=c.hk;have hT:(1:Int)<=(T:Int):=by rw[T_num];omega
 refine⟨F.of (min (flI A B) (T-1)),?_,?_,?_⟩
 ·show outDn _=_;unfold outDn;rw[if_neg (by omega)]
 ·rw[<-hk,F.of_k (by omega)];omega
 ·intro d hd;have h3:=(hk d).2 hd;have h4:=d.hk;rw[q_le,F.of_k (by omega)];omega
theorem rndR_up{A:Int}{B:Nat}{v:Rat}(hB:0<B)(hv:(A:Rat)/((S:Rat)*(B:Rat))=v)(c:F)(hc:v<=c.q):∃r,rndR true A B=(r,0)/\Up r v:=by
 subst hv;have hk:∀x:F,ceI A B<=x.k↔(A:Rat)/((S:Rat)*(B:Rat))<=x.q:=fun x=>by rw[ceI_le hB,<-rat_le_iff hB];rfl
 have h1:=(hk c).2 hc;have h2:=c.hk;have hT:(1:Int)<=(T:Int):=by rw[T_num];omega
 refine⟨F.of (max (ceI A B) (1-T)),?_,?_,?_⟩
 ·show outUp _=_;unfold outUp;rw[if_neg (by omega)]
 ·rw[<-hk,F.of_k (by omega)];omega
 ·intro d hd;have h3:=(hk d).2 hd;have h4:=d.hk;rw[q_le,F.of_k (by omega)];omega
theorem add_v(a b:F):((a.z+b.z:Int):Rat)/((S:Rat)*((1:Nat):Rat))=a.q+b.q:=by unfold F.q;rw[Rat.intCast_add,Rat.div_def,Rat.div_def,Rat.div_def,show((1:Nat):Rat)=1 from rfl,Rat.mul_one,Rat.add_mul]
theorem sub_v(a b:F):((a.z-b.z:Int):Rat)/((S:Rat)*((1:Nat):Rat))=a.q-b.q:=by unfold F.q;rw[Rat.intCast_sub,Rat.div_def,Rat.div_def,Rat.div_def,show((1:Nat):Rat)=1 from rfl,Rat.mul_one];grind
theorem mul_v(a b:F):((a.z*b.z:Int):Rat)/((S:Rat)*(S:Rat))=a.q*b.q:=by unfold F.q;rw[Rat.intCast_mul];have:=S_ne;grind
theorem div_v(a b:F)(hb:b.k≠0):((if b.k<0 then -(a.z*(S:Int))else a.z*(S:Int):Int):Rat)/((S:Rat)*((b.z.natAbs:Nat):Rat))=a.q/b.q:=by
 have hz:b.z≠0:=fun h=>hb ((z_zero b).1 h);have hzr:(b.z:Rat)≠0:=fun h=>hz (Rat.intCast_inj.1 h);have hS:=S_ne;have hS2:((S:Int):Rat)=(S:Rat):=Rat.intCast_natCast S;unfold F.q;split
 ·rename_i hk;have h1:=(z_sign b).2 hk;have e:((b.z.natAbs:Nat):Rat)= -(b.z:Rat):=by rw[<-Rat.intCast_natCast,show((b.z.natAbs:Nat):Int)= -b.z from by omega,Rat.intCast_neg]
  rw[e,Rat.intCast_neg,Rat.intCast_mul,hS2];grind
 ·rename_i hk;have h1:¬b.z<0:=fun h=>hk ((z_sign b).1 h);have e:((b.z.natAbs:Nat):Rat)=(b.z:Rat):=by rw[<-Rat.intCast_natCast,show((b.z.natAbs:Nat):Int)=b.z from by omega]
  rw[e,Rat.intCast_mul,hS2];grind
theorem dAdd_dn{a b:F}(c:F)(hc:c.q<=a.q+b.q):∃r,dAdd false a b=(r,0)/\Dn r (a.q+b.q):=rndR_dn (by decide) (add_v a b) c hc
theorem dAdd_up{a b:F}(c:F)(hc:a.q+b.q<=c.q):∃r,dAdd true a b=(r,0)/\Up r (a.q+b.q):=rndR_up (by decide) (add_v a b) c hc
theorem dSub_dn{a b:F}(c:F)(hc:c.q<=a.q-b.q):∃r,dSub false a b=(r,0)/\Dn r (a.q-b.q):=rndR_dn (by decide) (sub_v a b) c hc
theorem dSub_up{a b:F}(c:F)(hc:a.q-b.q<=c.q):∃r,dSub true a b=(r,0)/\Up r (a.q-b.q):=rndR_up (by decide) (sub_v a b) c hc
theorem dMul_dn{a b:F}(c:F)(hc:c.q<=a.q*b.q):∃r,dMul false a b=(r,0)/\Dn r (a.q*b.q):=rndR_dn S_pos (mul_v a b) c hc
theorem dMul_up{a b:F}(c:F)(hc:a.q*b.q<=c.q):∃r,dMul true a b=(r,0)/\Up r (a.q*b.q):=rndR_up S_pos (mul_v a b) c hc
theorem grid(m:Int)(hm:m.natAbs<=9007199254740992)(s:Nat)(hs:s<=1074)(hs2:54<=s+1023):∃c:F,c.q*((2^s:Nat):Rat)=(m:Rat):=by
 have key:∀n:Nat,n<=9007199254740992->∃c:F,c.q*((2^s:Nat):Rat)=(n:Rat):=by
  intro n hn;have h1:(F.dy n (-(s:Int))).z=((n*2^(-(s:Int)+1074).toNat:Nat):Int):=dy_z (by have:P=4503599627370496:=rfl;omega) (by omega) (by have:=blen_2P (m:=n) (by have:P=4503599627370496:=rfl;omega);omega);refine⟨F.dy n (-(s:Int)),?_⟩;have hS:S=2^(-(s:Int)+1074).toNat*2^s:=by rw[S_eq,<-Nat.pow_add];congr 1;omega
  have h2:=F.q_mul (F.dy n (-(s:Int)));rw[h1,hS,Rat.intCast_natCast,Rat.natCast_mul,Rat.natCast_mul]at h2;have hp:((2^(-(s:Int)+1074).toNat:Nat):Rat)≠0:=by intro h;have h3:((2^(-(s:Int)+1074).toNat:Nat):Rat)=((0:Nat):Rat):=h;have:=Rat.natCast_inj.1 h3;have:=Nat.two_pow_pos (-(s:Int)+1074).toNat;omega
  generalize ((2^(-(s:Int)+1074).toNat:Nat):Rat)=p at*;generalize ((2^s:Nat):Rat)=w at*;generalize (F.dy n (-(s:Int))).q=x at*;grind
 rcases Int.le_total 0 m with h|h
 ·obtain⟨c,hc⟩:=key m.natAbs hm;exact⟨c,by rw[hc,<-Rat.intCast_natCast,show((m.natAbs:Nat):Int)=m from by omega]⟩
 ·obtain⟨c,hc⟩:=key m.natAbs hm;exact⟨c.neg,by rw[q_neg,Rat.neg_mul,hc,<-Rat.intCast_natCast,show((m.natAbs:Nat):Int)= -m from by omega,Rat.intCast_neg];grind⟩
theorem pow_q(s:Nat):(0:Rat)<((2^s:Nat):Rat):=by
 have:=Rat.natCast_lt_natCast.2 (Nat.two_pow_pos s)
 simpa using this
structure Mem (a:I) (v:Rat):Prop where
 lo:a.lo.q<=v
 hi:v<=a.hi.q
theorem Mem.rt{a:I}{v:Rat}(h:Mem a v):rt a=true:=dT (q_le.1 (Rat.le_trans h.lo h.hi))
theorem rt_q{a:I}(h:a.lo.q<=a.hi.q):rt a=true:=dT (q_le.1 h)
structure Sm (a:I):Prop where
 lo:-67108864<=a.lo.q
 rt:a.lo.q<=a.hi.q
 hi:a.hi.q<=67108864
theorem big_ex:∃c:F,c.q=9007199254740992:=by obtain⟨c,hc⟩:=grid 9007199254740992 (by omega) 0 (by omega) (by omega);exact⟨c,by simpa using hc⟩
theorem low_ex:∃c:F,c.q= -9007199254740992:=by obtain⟨c,hc⟩:=big_ex;exact⟨c.neg,by rw[q_neg,hc]⟩
theorem prod_bd{x y:Rat}(h1:-67108864<=x)(h2:x<=67108864)(h3:-67108864<=y)(h4:y<=67108864):-9007199254740992<=x*y/\x*y<=9007199254740992:=by have a:=mN (show 0<=x+67108864 by grind) (show 0<=y+67108864 by grind);have b:=mN (show 0<=67108864-x by grind) (show 0<=67108864-y by grind);have c:=mN (show 0<=67108864-x by grind) (show 0<=y+67108864 by grind);have d:=mN (show 0<=x+67108864 by grind) (show 0<=67108864-y by grind);constructor<;>grind
theorem ask_ok{r:I×Int}{g:Bool}(hg:g=true)(hr:r.2=0):askI 0 g r=(r.1,0):=by unfold askI;rw[hg,hr];rfl
theorem ends_ok{l h:F}:endsI (l,0) (h,0)=(⟨l,h⟩,0):=rfl
theorem cAdd_ok{a b:I}(ha:Sm a)(hb:Sm b):∃r,cAdd dAdd 0 a b=(r,0)/\Dn r.lo (a.lo.q+b.lo.q)/\Up r.hi (a.hi.q+b.hi.q):=by obtain⟨c,hc⟩:=low_ex;obtain⟨d,hd⟩:=big_ex;obtain⟨l,e1,h1⟩:= @dAdd_dn a.lo b.lo c (by have:=ha.lo;have:=hb.lo;grind);obtain⟨h,e2,h2⟩:= @dAdd_up a.hi b.hi d (by have:=ha.hi;have:=hb.hi;grind);refine⟨⟨l,h⟩,?_,h1,h2⟩;unfold cAdd;rw[e1,e2,ends_ok,ask_ok (by rw[rt_q ha.rt,rt_q hb.rt];rfl) rfl]
theorem cSub_ok{a b:I}(ha:Sm a)(hb:Sm b):∃r,cSub dSub 0 a b=(r,0)/\Dn r.lo (a.lo.q-b.hi.q)/\Up r.hi (a.hi.q-b.lo.q):=by obtain⟨c,hc⟩:=low_ex;obtain⟨d,hd⟩:=big_ex;obtain⟨l,e1,h1⟩:= @dSub_dn a.lo b.hi c (by have:=ha.lo;have:=hb.hi;grind);obtain⟨h,e2,h2⟩:= @dSub_up a.hi b.lo d (by have:=ha.hi;have:=hb.lo;grind);refine⟨⟨l,h⟩,?_,h1,h2⟩;unfold cSub;rw[e1,e2,ends_ok,ask_ok (by rw[rt_q ha.rt,rt_q hb.rt];rfl) rfl]
structure AllR (r:I) (p q s t:Rat):Prop where
 lo:r.lo.q<=p/\r.lo.q<=q/\r.lo.q<=s/\r.lo.q<=t
 hi:p<=r.hi.q/\q<=r.hi.q/\s<=r.hi.q/\t<=r.hi.q
 loE:Dn r.lo p\/Dn r.lo q\/Dn r.lo s\/Dn r.lo t
 hiE:Up r.hi p\/Up r.hi q\/Up r.hi s\/Up r.hi t
theorem mnF_q(a b:F):(mnF a b).q<=a.q/\(mnF a b).q<=b.q:=by
 constructor<;>rw[q_le,mnF_k']<;>omega
 where mnF_k':(mnF a b).k=min a.k b.k:=by unfold mnF;split<;>omega
theorem mxF_q(a b:F):a.q<=(mxF a b).q/\b.q<=(mxF a b).q:=by
 constructor<;>rw[q_le,mxF_k']<;>omega
 where mxF_k':(mxF a b).k=max a.k b.k:=by unfold mxF;split<;>omega
theorem mnF_or(a b:F):mnF a b=a\/mnF a b=b:=by unfold mnF;split<;>simp
theorem mxF_or(a b:F):mxF a b=a\/mxF a b=b:=by unfold mxF;split<;>simp
theorem allI_ok{f:Bool->F->F->F×Int}{a b:I}{p q s t:Rat}
  (h1:(∃r,f false a.lo b.lo=(r,0)/\Dn r p)/\∃r,f true a.lo b.lo=(r,0)/\Up r p)
  (h2:(∃r,f false a.lo b.hi=(r,0)/\Dn r q)/\∃r,f true a.lo b.hi=(r,0)/\Up r q)
  (h3:(∃r,f false a.hi b.lo=(r,0)/\Dn r s)/\∃r,f true a.hi b.lo=(r,0)/\Up r s)
  (h4:(∃r,f false a.hi b.hi=(r,0)/\Dn r t)/\∃r,f true a.hi b.hi=(r,0)/\Up r t):∃r,allI f a b=(r,0)/\AllR r p q s t:=by
 obtain⟨⟨l1,e1,d1⟩,⟨u1,g1,p1⟩⟩:=h1;obtain⟨⟨l2,e2,d2⟩,⟨u2,g2,p2⟩⟩:=h2;obtain⟨⟨l3,e3,d3⟩,⟨u3,g3,p3⟩⟩:=h3;obtain⟨⟨l4,e4,d4⟩,⟨u4,g4,p4⟩⟩:=h4;refine⟨hullI (hullI (hullI (hullI ⟨l1,u1⟩ ⟨l1,u1⟩) ⟨l2,u2⟩) ⟨l3,u3⟩) ⟨l4,u4⟩,?_,?_⟩
 ·unfold allI oneI;rw[e1,g1,e2,g2,e3,g3,e4,g4];rfl
 ·have s1:mnF l1 l1=l1:=by rcases mnF_or l1 l1 with h|h<;>exact h
  have s2:mxF u1 u1=u1:=by rcases mxF_or u1 u1 with h|h<;>exact h
  simp only[hullI,s1,s2];have a1:=mnF_q l1 l2;have a2:=mnF_q (mnF l1 l2) l3;have a3:=mnF_q (mnF (mnF l1 l2) l3) l4;have b1:=mxF_q u1 u2;have b2:=mxF_q (mxF u1 u2) u3;have b3:=mxF_q (mxF (mxF u1 u2) u3) u4;have c1:=d1.le;have c2:=d2.le;have c3:=d3.le;have c4:=d4.le;have k1:=p1.ge;have k2:=p2.ge;have k3:=p3.ge;have k4:=p4.ge;refine⟨⟨by grind,by grind,by grind,by grind⟩,⟨by grind,by grind,by grind,by grind⟩,?_,?_⟩
  ·rcases mnF_or (mnF (mnF l1 l2) l3) l4 with h|h
   ·simp only[h];rcases mnF_or (mnF l1 l2) l3 with h|h
    ·simp only[h];rcases mnF_or l1 l2 with h|h
     ·simp only[h];exact .inl d1
     ·simp only[h];exact .inr (.inl d2)
    ·simp only[h];exact .inr (.inr (.inl d3))
   ·simp only[h];exact .inr (.inr (.inr d4))
  ·rcases mxF_or (mxF (mxF u1 u2) u3) u4 with h|h
   ·simp only[h];rcases mxF_or (mxF u1 u2) u3 with h|h
    ·simp only[h];rcases mxF_or u1 u2 with h|h
     ·simp only[h];exact .inl p1
     ·simp only[h];exact .inr (.inl p2)
    ·simp only[h];exact .inr (.inr (.inl p3))
   ·simp only[h];exact .inr (.inr (.inr p4))
theorem cMul_ok{a b:I}(ha:Sm a)(hb:Sm b):∃r,cMul dMul 0 a b=(r,0)/\AllR r (a.lo.q*b.lo.q) (a.lo.q*b.hi.q) (a.hi.q*b.lo.q) (a.hi.q*b.hi.q):=by
 obtain⟨c,hc⟩:=low_ex;obtain⟨d,hd⟩:=big_ex;have x1:=ha.lo;have x2:=ha.hi;have x3:=ha.rt;have y1:=hb.lo;have y2:=hb.hi;have y3:=hb.rt;have key:∀x y:F,-67108864<=x.q->x.q<=67108864-> -67108864<=y.q->y.q<=67108864->(∃r,dMul false x y=(r,0)/\Dn r (x.q*y.q))/\∃r,dMul true x y=(r,0)/\Up r (x.q*y.q):=by intro x y h1 h2 h3 h4;have:=prod_bd h1 h2 h3 h4;exact⟨dMul_dn c (by rw[hc];exact this.1),dMul_up d (by rw[hd];exact this.2)⟩
 obtain⟨r,e,h⟩:=allI_ok (f:=dMul) (a:=a) (b:=b) (key a.lo b.lo (by grind) (by grind) (by grind) (by grind)) (key a.lo b.hi (by grind) (by grind) (by grind) (by grind)) (key a.hi b.lo (by grind) (by grind) (by grind) (by grind)) (key a.hi b.hi (by grind) (by grind) (by grind) (by grind));refine⟨r,?_,h⟩;unfold cMul;rw[e,ask_ok (by rw[rt_q ha.rt,rt_q hb.rt];rfl) rfl]
theorem cNum_ok(x:F):cNum 0 x=(⟨x,x⟩,0):=rfl
theorem lin_ge{m c b0 b1 y:Rat}(h0:m<=c*b0)(h1:m<=c*b1)(g0:b0<=y)(g1:y<=b1):m<=c*y:=by
 rcases (Rat.le_total:0<=c\/c<=0)with h|h
 ·have:=mN h (show 0<=y-b0 by grind);grind
 ·have:=mN (show 0<= -c by grind) (show 0<=b1-y by grind);grind
theorem lin_le{m c b0 b1 y:Rat}(h0:c*b0<=m)(h1:c*b1<=m)(g0:b0<=y)(g1:y<=b1):c*y<=m:=by have:= @lin_ge (-m) (-c) b0 b1 y (by grind) (by grind) g0 g1;grind
theorem mul_mem{r a b:I}{x y:Rat}(h:AllR r (a.lo.q*b.lo.q) (a.lo.q*b.hi.q) (a.hi.q*b.lo.q) (a.hi.q*b.hi.q))(hx:Mem a x)(hy:Mem b y):Mem r (x*y):=by obtain⟨l1,l2,l3,l4⟩:=h.lo;obtain⟨u1,u2,u3,u4⟩:=h.hi;have a1:=lin_ge l1 l2 hy.lo hy.hi;have a2:=lin_ge l3 l4 hy.lo hy.hi;have b1:=lin_le u1 u2 hy.lo hy.hi;have b2:=lin_le u3 u4 hy.lo hy.hi;have c1:= @lin_ge r.lo.q y a.lo.q a.hi.q x (by grind) (by grind) hx.lo hx.hi;have c2:= @lin_le r.hi.q y a.lo.q a.hi.q x (by grind) (by grind) hx.lo hx.hi;exact⟨by grind,by grind⟩
theorem add_mem{r a b:I}{x y:Rat}(h1:Dn r.lo (a.lo.q+b.lo.q))(h2:Up r.hi (a.hi.q+b.hi.q))(hx:Mem a x)(hy:Mem b y):Mem r (x+y):=by have a1:=h1.le;have a2:=h2.ge;have:=hx.lo;have:=hx.hi;have:=hy.lo;have:=hy.hi;exact⟨by grind,by grind⟩
theorem sub_mem{r a b:I}{x y:Rat}(h1:Dn r.lo (a.lo.q-b.hi.q))(h2:Up r.hi (a.hi.q-b.lo.q))(hx:Mem a x)(hy:Mem b y):Mem r (x-y):=by have a1:=h1.le;have a2:=h2.ge;have:=hx.lo;have:=hx.hi;have:=hy.lo;have:=hy.hi;exact⟨by grind,by grind⟩
def ulp:Rat:=1/9007199254740992
theorem AllR.top{r:I}{p q s t:Rat}(h:AllR r p q s t){c:F}(hp:c.q<=p)(hq:c.q<=q)(hs:c.q<=s)(ht:c.q<=t):c.q<=r.lo.q:=by
 rcases h.loE with h|h|h|h
 ·exact h.top c hp
 ·exact h.top c hq
 ·exact h.top c hs
 ·exact h.top c ht
theorem AllR.bot{r:I}{p q s t:Rat}(h:AllR r p q s t){c:F}(hp:p<=c.q)(hq:q<=c.q)(hs:s<=c.q)(ht:t<=c.q):r.hi.q<=c.q:=by
 rcases h.hiE with h|h|h|h
 ·exact h.bot c hp
 ·exact h.bot c hq
 ·exact h.bot c hs
 ·exact h.bot c ht
theorem q_of{x:F}{n:Int}{s:Nat}(h:x.z*((2^s:Nat):Int)=n*(S:Int)):x.q*((2^s:Nat):Rat)=(n:Rat):=by
 have h1:((x.z*((2^s:Nat):Int):Int):Rat)=((n*(S:Int):Int):Rat):=by rw[h]
 rw[Rat.intCast_mul,Rat.intCast_mul,Rat.intCast_natCast,Rat.intCast_natCast,<-F.q_mul]at h1;have:=S_ne;generalize ((2^s:Nat):Rat)=w at*;grind
theorem one_q:one64.q=1:=by
 have:=q_of (x:=one64) (n:=1) (s:=0) (by decide+kernel)
 simpa using this
structure U01 (a:I):Prop where
 lo:0<=a.lo.q
 rt:a.lo.q<=a.hi.q
 hi:a.hi.q<=1
theorem U01.sm{a:I}(h:U01 a):Sm a:=⟨by have:=h.lo;grind,h.rt,by have:=h.hi;grind⟩
def wd(a:I):Rat:=a.hi.q-a.lo.q
theorem bare_ok{a:I}(ha:Sm a):0<=(bareI a).lo.q/\(bareI a).lo.q<=(bareI a).hi.q/\(bareI a).hi.q<=67108864/\(∀v,Mem a v->(bareI a).lo.q*(bareI a).lo.q<=v*v/\v*v<=(bareI a).hi.q*(bareI a).hi.q)/\(bareI a).hi.q-(bareI a).lo.q<=wd a/\(∀m,-m<=a.lo.q->a.hi.q<=m->(bareI a).hi.q<=m):=by
 have x1:=ha.lo;have x2:=ha.hi;have x3:=ha.rt;have key:∀{x v y:Rat},0<=x->x<=v->v<=y->x*x<=v*v/\v*v<=y*y:=by intro x v y h1 h2 h3;have a1:=mN h1 (show 0<=v-x by grind);have a2:=mN (show 0<=v by grind) (show 0<=v-x by grind);have a3:=mN (show 0<=v by grind) (show 0<=y-v by grind);have a4:=mN (show 0<=y by grind) (show 0<=y-v by grind);constructor<;>grind
 have hz:∀x:F,0<=x.k↔0<=x.q:=fun x=>by rw[<-q_zero,q_le];rfl
 unfold bareI wd;cases h1:decide (0<=a.lo.k)
 ·have g1:=of_decide_eq_false h1;rw[hz]at g1;rw[cF];cases h2:decide (a.hi.k<=0)
  ·have g2:=of_decide_eq_false h2;have g3:¬a.hi.q<=0:=by rw[<-q_zero,q_le];exact g2
   rw[cF];simp only;have m1:=mxF_q a.hi a.lo.neg;have m2:=mxF_or a.hi a.lo.neg;rw[q_neg]at m1;have m3:(mxF a.hi a.lo.neg).q=a.hi.q\/(mxF a.hi a.lo.neg).q= -a.lo.q:=by
    rcases m2 with h|h
    ·left;rw[h]
    ·right;rw[h,q_neg]
   rw[q_zero];refine⟨Rat.le_refl,by grind,by grind,?_,by grind,by grind⟩;intro v hv;have v1:=hv.lo;have v2:=hv.hi;rcases (Rat.le_total:0<=v\/v<=0)with h|h
   ·exact key Rat.le_refl h (by grind)
   ·have:= @key 0 (-v) (mxF a.hi a.lo.neg).q Rat.le_refl (by grind) (by grind);constructor<;>grind
  ·have g2:=oTz h2;have g3:a.hi.q<=0:=by rw[<-q_zero,q_le];exact g2
   rw[cT];simp only[turnI,q_neg];refine⟨by grind,by grind,by grind,?_,by grind,by grind⟩;intro v hv;have v1:=hv.lo;have v2:=hv.hi;have:= @key (-a.hi.q) (-v) (-a.lo.q) (by grind) (by grind) (by grind);constructor<;>grind
 ·have g1:=oTz h1;rw[hz]at g1;rw[cT];exact⟨g1,x3,x2,fun v hv=>key g1 hv.lo hv.hi,Rat.le_refl,fun m _ h=>h⟩
theorem cSqr_ok{a:I}(ha:Sm a):∃r,cSqr dMul 0 a=(r,0)/\Dn r.lo ((bareI a).lo.q*(bareI a).lo.q)/\Up r.hi ((bareI a).hi.q*(bareI a).hi.q):=by obtain⟨c,hc⟩:=low_ex;obtain⟨d,hd⟩:=big_ex;obtain⟨b1,b2,b3,_⟩:=bare_ok ha;have p1:=prod_bd (x:=(bareI a).lo.q) (y:=(bareI a).lo.q) (by grind) (by grind) (by grind) (by grind);have p2:=prod_bd (x:=(bareI a).hi.q) (y:=(bareI a).hi.q) (by grind) (by grind) (by grind) (by grind);obtain⟨l,e1,h1⟩:= @dMul_dn (bareI a).lo (bareI a).lo c (by rw[hc];exact p1.1);obtain⟨h,e2,h2⟩:= @dMul_up (bareI a).hi (bareI a).hi d (by rw[hd];exact p2.2);refine⟨⟨l,h⟩,?_,h1,h2⟩;unfold cSqr;rw[e1,e2,ends_ok,ask_ok (rt_q ha.rt) rfl]
theorem sqr_mem{r a:I}{v:Rat}(ha:Sm a)(h1:Dn r.lo ((bareI a).lo.q*(bareI a).lo.q))(h2:Up r.hi ((bareI a).hi.q*(bareI a).hi.q))(hv:Mem a v):Mem r (v*v):=by have:=(bare_ok ha).2.2.2.1 v hv;have:=h1.le;have:=h2.ge;exact⟨by grind,by grind⟩
theorem q_of'{x:F}{n:Int}{s:Nat}{w:Rat}(h:decide (x.z*((2^s:Nat):Int)=n*(S:Int))=true)(hw:((2^s:Nat):Rat)=w):x.q*w=(n:Rat):=by rw[<-hw];exact q_of (oTz h)
theorem q_int{x:F}{n:Int}(h:decide (x.z*((2^0:Nat):Int)=n*(S:Int))=true):x.q=(n:Rat):=by have:=q_of' (w:=1) h rfl;grind
theorem sq_bd{x m:Rat}(h1:-m<=x)(h2:x<=m):x*x<=m*m:=by have:=mN (show 0<=m-x by grind) (show 0<=m+x by grind);grind
theorem sq_nn(x:Rat):0<=x*x:=by
 rcases (Rat.le_total:0<=x\/x<=0)with h|h
 ·exact mN h h
 ·have:=mN (show 0<= -x by grind) (show 0<= -x by grind);grind
theorem mone_q:mone64.q= -1:=by have e:mone64=one64.neg:=F.ext' (by rw[F.neg_k,one64_k,mone64_k]);rw[e,q_neg,one_q]
theorem withI_eq{a:I}{v:Rat}(h:Mem a v)(h0:-1<=v)(h1:v<=1):withI a=⟨mxF a.lo mone64,mnF a.hi one64⟩:=by
 have k1:(mxF a.lo mone64).q<=v:=by
  rcases mxF_or a.lo mone64 with e|e<;>rw[e]
  ·exact h.lo
  ·rw[mone_q];exact h0
 have k2:v<=(mnF a.hi one64).q:=by
  rcases mnF_or a.hi one64 with e|e<;>rw[e]
  ·exact h.hi
  ·rw[one_q];exact h1
 have k3:=q_le.1 (Rat.le_trans k1 k2);unfold withI;rw[show decide ((mnF a.hi one64).k<(mxF a.lo mone64).k)=false from dF (by omega),cF]
theorem consts:c1.q*8=1/\c3.q*8=3/\c5.q*8=5/\c7.q*8=7/\q1.q*4=1/\q2.q*4=2/\q3.q*4=3/\(toF 0).q=0:=
 ⟨q_of' (n:=1) (s:=3) (by decide+kernel) rfl,q_of' (n:=3) (s:=3) (by decide+kernel) rfl,q_of' (n:=5) (s:=3) (by decide+kernel) rfl,q_of' (n:=7) (s:=3) (by decide+kernel) rfl,
  q_of' (n:=1) (s:=2) (by decide+kernel) rfl,q_of' (n:=2) (s:=2) (by decide+kernel) rfl,q_of' (n:=3) (s:=2) (by decide+kernel) rfl,q_int (n:=0) (by decide+kernel)⟩
end Bu
namespace Bu
open Rx Go
theorem In1.sm{a:I}(h:In1 a):Sm a:=by have h1:=q_le.2 h.lo;have h2:=q_le.2 h.hi;have h3:=q_le.2 h.rt;rw[mone_q]at h1;rw[one_q]at h2;exact⟨by grind,h3,by grind⟩
theorem sqr_in{a:I}(h:In1 a):∃r,cSqr dMul 0 a=(r,0)/\U01 r/\∀v,Mem a v->Mem r (v*v):=by
 obtain⟨r,e,h1,h2⟩:=cSqr_ok h.sm;obtain⟨b1,b2,b3,b4,b5,b6⟩:=bare_ok h.sm;have g1:=q_le.2 h.lo;have g2:=q_le.2 h.hi;rw[mone_q]at g1;rw[one_q]at g2;have b7:=b6 1 g1 g2;refine⟨r,e,⟨?_,?_,?_⟩,fun v hv=>sqr_mem h.sm h1 h2 hv⟩
 ·rw[<-q_zero];exact h1.top F.zero (by rw[q_zero];exact sq_nn _)
 ·have:=h1.le;have:=h2.ge;have k1:=mN b1 (show 0<=(bareI a).hi.q-(bareI a).lo.q by grind);have k2:=mN (show 0<=(bareI a).hi.q by grind) (show 0<=(bareI a).hi.q-(bareI a).lo.q by grind);grind
 ·rw[<-one_q];refine h2.bot one64 ?_;rw[one_q];have:=sq_bd (x:=(bareI a).hi.q) (m:=1) (by grind) b7;grind
end Bu
