/- micro, fresnel, lambert by the reckoner. micro.Look and what it calls as known functions. .. -/
import Derived.Test.YtejcekikbnlllaaGreatT10
import Derived.Test.YtejcekikbnlllaaGreatT08
import Derived.Test.YtejcekikbnlllaaGreatT07
import Derived.Test.YtejcekikbnlllaaGreatT04
set_option linter.all false
namespace Bu
open Rx Go
def lnR (E:List I × Int) (i:Nat):I × Int := bif neB E.2 then (I.zero,E.2) else (gt E.1 i,0)
def miK (K:Kk) (v u:V3):List I × Int := evalK K miH [u.z,u.y,u.x,v.z,v.y,v.x] 0
def g2K (K:Kk) (c d al:I):List I × Int := evalK K gg2 [d,c,al] 0
def fdK (K:Kk) (c n:I):List I × Int := evalK K frD [c,n] 0
def fcK (K:Kk) (c a b:I):List I × Int := evalK K frC [c,a,b] 0
def lbK (K:Kk) (r:I):List I × Int := evalK K lbV [r] 0
def u01O (c:I):Obs := [(decide (c.hi.k ≤ one64.k),true),(decide (z64.k ≤ c.lo.k),true),(rt c,true)]
def bndO (c:I) (l h:F):Obs := [(decide (c.hi.k ≤ h.k),true),(decide (l.k ≤ c.lo.k),true),(rt c,true)]
def kHf (f:V3 → V3 → List I × Int):List SV → Dec → Option (SV × Dec × Obs)
 | [.agg [.fl a, .fl b, .fl c, .fl d, .fl e, .fl f'], .agg [.fl g, .fl h, .fl i, .fl j, .fl k, .fl l]], ds =>
   some (.tup [.agg [.fl (lnR (f ⟨⟨a,b⟩,⟨c,d⟩,⟨e,f'⟩⟩ ⟨⟨g,h⟩,⟨i,j⟩,⟨k,l⟩⟩) 0).1.lo,.fl (lnR (f ⟨⟨a,b⟩,⟨c,d⟩,⟨e,f'⟩⟩ ⟨⟨g,h⟩,⟨i,j⟩,⟨k,l⟩⟩) 0).1.hi],.agg [.fl (lnR (f ⟨⟨a,b⟩,⟨c,d⟩,⟨e,f'⟩⟩ ⟨⟨g,h⟩,⟨i,j⟩,⟨k,l⟩⟩) 3).1.lo,.fl (lnR (f ⟨⟨a,b⟩,⟨c,d⟩,⟨e,f'⟩⟩ ⟨⟨g,h⟩,⟨i,j⟩,⟨k,l⟩⟩) 3).1.hi],.si .i64 (f ⟨⟨a,b⟩,⟨c,d⟩,⟨e,f'⟩⟩ ⟨⟨g,h⟩,⟨i,j⟩,⟨k,l⟩⟩).2],ds,dirO ⟨⟨a,b⟩,⟨c,d⟩,⟨e,f'⟩⟩ ++ dirO ⟨⟨g,h⟩,⟨i,j⟩,⟨k,l⟩⟩)
 | _,_ => none
def kI3 (f:I → I → I → I × Int) (o:I → I → I → Obs):List SV → Dec → Option (SV × Dec × Obs)
 | [.agg [.fl a,.fl b],.agg [.fl c,.fl d],.agg [.fl e,.fl g]],ds => some (.tup [.agg [.fl (f ⟨a,b⟩ ⟨c,d⟩ ⟨e,g⟩).1.lo,.fl (f ⟨a,b⟩ ⟨c,d⟩ ⟨e,g⟩).1.hi],.si .i64 (f ⟨a,b⟩ ⟨c,d⟩ ⟨e,g⟩).2],ds,o ⟨a,b⟩ ⟨c,d⟩ ⟨e,g⟩)
 | _,_ => none
def kI2 (f:I → I → I × Int) (o:I → I → Obs):List SV → Dec → Option (SV × Dec × Obs)
 | [.agg [.fl a,.fl b],.agg [.fl c,.fl d]],ds => some (.tup [.agg [.fl (f ⟨a,b⟩ ⟨c,d⟩).1.lo,.fl (f ⟨a,b⟩ ⟨c,d⟩).1.hi],.si .i64 (f ⟨a,b⟩ ⟨c,d⟩).2],ds,o ⟨a,b⟩ ⟨c,d⟩)
 | _,_ => none
def kI1 (f:I → I × Int) (o:I → Obs):List SV → Dec → Option (SV × Dec × Obs)
 | [.agg [.fl a,.fl b]],ds => some (.tup [.agg [.fl (f ⟨a,b⟩).1.lo,.fl (f ⟨a,b⟩).1.hi],.si .i64 (f ⟨a,b⟩).2],ds,o ⟨a,b⟩)
 | _,_ => none
end Bu
namespace Go.Proofs.YtejcekikbnlllaaGreat
open Go.RowKit Bu Rx
def OLk (K:Kk):OracleF := lookO (OCL K ++ [(298,kMlook)])
theorem oracleLk:OracleOk Tryz.prog (OLk KkR) :=
 .cons addC <| .cons subC <| .cons mulC <| .cons divC <| .cons cmax_I <| .cons sqrC <| .cons csqrt_I <|
 .cons negC <|
 .cons numC <| .cons irtK.of <| .cons rightG.of <| .cons absG.of <| .cons vwG.of <| .cons piG.of <| .cons mlook_ok <| .nil _
theorem hfRun0 (K:Kk) (v u:V3):valR ((run Tryz.prog EG (OLk K) 80).1 299 [v.sv,u.sv] [] (some [false])) = some (.tup [ivS (gt (miK K v u).1 0),ivS (gt (miK K v u).1 3),.i .i64 0],some [],(neB (miK K v u).2,false) :: (dirO v ++ dirO u)) := by kernel_rfl
theorem hfRun1 (K:Kk) (v u:V3):valR ((run Tryz.prog EG (OLk K) 80).1 299 [v.sv,u.sv] [] (some [true])) = some (.tup [ivS I.zero,ivS I.zero,.si .i64 (miK K v u).2],some [],(neB (miK K v u).2,true) :: (dirO v ++ dirO u)) := by kernel_rfl
def g2O (c d al:I):Obs := u01d d ++ ggO c al where u01d (d:I):Obs := [(decide (d.hi.k ≤ one64.k),true),(decide (z64.k ≤ d.lo.k),true),(rt d,true)]
theorem g2Run (K:Kk) (c d al:I) (b:Bool):valR ((run Tryz.prog EG (lookO (OCL K)) 80).1 301 [ivS c,ivS d,ivS al] [] (some [true,true,true,true,true,true,true,true,true,b])) = some (.tup (bif b then [ivS I.zero,.si .i64 (g2K K c d al).2] else [ivS (gt (g2K K c d al).1 0),.i .i64 0]),some [],(neB (g2K K c d al).2,b) :: g2O c d al) := by cases b <;> kernel_rfl
theorem fdRun (K:Kk) (c n:I) (b:Bool):valR ((run Tryz.prog EG (lookO (OCL K)) 80).1 66 [ivS c,ivS n] [] (some [true,true,false,false,false,false,b])) = some (.tup (bif b then [ivS I.zero,.si .i64 (fdK K c n).2] else [ivS (gt (fdK K c n).1 0),.i .i64 0]),some [],[(neB (fdK K c n).2,b),(decide (four64.k < n.hi.k),false),(decide (n.lo.k < minIo.k),false),(decide (one64.k < c.hi.k),false),(decide (c.lo.k < z64.k),false),(rt n,true),(rt c,true)]) := by cases b <;> kernel_rfl
theorem fcRun (K:Kk) (c m n:I) (b:Bool):valR ((run Tryz.prog EG (lookO (OCL K)) 80).1 328 [ivS c,ivS m,ivS n] [] (some [true,true,true,false,false,false,false,false,false,b])) = some (.tup (bif b then [ivS I.zero,.si .i64 (fcK K c m n).2] else [ivS (gt (fcK K c m n).1 0),.i .i64 0]),some [],[(neB (fcK K c m n).2,b),(decide (maxMt.k < n.hi.k),false),(decide (n.lo.k < minMt.k),false),(decide (maxMt.k < m.hi.k),false),(decide (m.lo.k < minMt.k),false),(decide (one64.k < c.hi.k),false),(decide (c.lo.k < z64.k),false),(rt n,true),(rt m,true),(rt c,true)]) := by cases b <;> kernel_rfl
theorem lbRun (K:Kk) (r:I) (b:Bool):valR ((run Tryz.prog EG (lookO (OCL K)) 80).1 297 [ivS r] [] (some [true,false,false,b])) = some (.tup (bif b then [ivS I.zero,.si .i64 (lbK K r).2] else [ivS (gt (lbK K r).1 0),.i .i64 0]),some [],[(neB (lbK K r).2,b),(decide (one64.k < r.hi.k),false),(decide (r.lo.k < z64.k),false),(rt r,true)]) := by cases b <;> kernel_rfl
end Go.Proofs.YtejcekikbnlllaaGreat
namespace Bu
open Rx Go
theorem ob_c {c b:Bool} {ob:Obs} (h:c = b) (k:ObsOk ob):ObsOk ((c,b) :: ob) := fun q hq => by
 rcases List.mem_cons.1 hq with rfl | hq
 ·exact h
 ·exact k q hq
theorem ob_n:ObsOk [] := fun _ h => by cases h
theorem ob_a {a b:Obs} (h:ObsOk a) (k:ObsOk b):ObsOk (a ++ b) := fun q hq => by
 rcases List.mem_append.1 hq with hq | hq
 ·exact h q hq
 ·exact k q hq
theorem ob_l {a b:Obs} (h:ObsOk (a ++ b)):ObsOk a := fun q hq => h q (List.mem_append_left _ hq)
theorem ob_r {a b:Obs} (h:ObsOk (a ++ b)):ObsOk b := fun q hq => h q (List.mem_append_right _ hq)
theorem ob_h {c b:Bool} {ob:Obs} (h:ObsOk ((c,b) :: ob)):c = b := h (c,b) (List.mem_cons_self ..)
theorem ob_t {c b:Bool} {ob:Obs} (h:ObsOk ((c,b) :: ob)):ObsOk ob := fun q hq => h q (List.mem_cons_of_mem _ hq)
theorem not_lt {a b:Int} (h:decide (a ≤ b) = true):decide (b < a) = false := decide_eq_false (by have := of_decide_eq_true h; omega)
def fdO (c n:I):Obs := bndO n minIo four64 ++ u01O c
def fcO (c m n:I):Obs := bndO n minMt maxMt ++ (bndO m minMt maxMt ++ u01O c)
structure GlK where
 H:V3 → V3 → List I × Int
 d:I → I → I × Int
 b:I → I → I → I × Int
 o:I → I → I × Int
def glH (G:GlK) (v u:V3):I × I := ((lnR (G.H v u) 0).1,(lnR (G.H v u) 3).1)
def glE (K:Kk) (G:GlK) (v u:V3) (al:I):List I × Int := evalK K miV [(G.o u.z al).1,(G.b v.z u.z al).1,(G.d (glH G v u).1 al).1,u.z,v.z] 0
def glErr (K:Kk) (G:GlK) (v u:V3) (al:I):Int := bif neB (G.H v u).2 then (G.H v u).2 else bif neB (G.d (glH G v u).1 al).2 then (G.d (glH G v u).1 al).2 else bif neB (G.b v.z u.z al).2 then (G.b v.z u.z al).2 else bif neB (G.o u.z al).2 then (G.o u.z al).2 else (glE K G v u al).2
structure Gl4 where
 ln:I
 hf:I
 v:I
 d:I
def Gl4.sv (g:Gl4):SV := .agg [.fl g.ln.lo,.fl g.ln.hi,.fl g.hf.lo,.fl g.hf.hi,.fl g.v.lo,.fl g.v.hi,.fl g.d.lo,.fl g.d.hi]
def Gl4.zero:Gl4 := ⟨I.zero,I.zero,I.zero,I.zero⟩
def glV (K:Kk) (G:GlK) (v u:V3) (al:I):Gl4 := ⟨(glH G v u).1,(glH G v u).2,gt (glE K G v u al).1 3,gt (glE K G v u al).1 0⟩
def glR (K:Kk) (G:GlK) (v u:V3) (al:I):Gl4 × Int := bif neB (glErr K G v u al) then (Gl4.zero,glErr K G v u al) else (glV K G v u al,0)
def glO (v u:V3) (al:I):Obs := alO al ++ (dirO v ++ dirO u)
def kGl (f:V3 → V3 → I → Gl4 × Int):List SV → Dec → Option (SV × Dec × Obs)
 | [.agg [.fl a, .fl b, .fl c, .fl d, .fl e, .fl f'], .agg [.fl g, .fl h, .fl i, .fl j, .fl k, .fl l], .agg [.fl p, .fl q]], ds =>
   some (.tup [(f ⟨⟨a,b⟩,⟨c,d⟩,⟨e,f'⟩⟩ ⟨⟨g,h⟩,⟨i,j⟩,⟨k,l⟩⟩ ⟨p,q⟩).1.sv,.si .i64 (f ⟨⟨a,b⟩,⟨c,d⟩,⟨e,f'⟩⟩ ⟨⟨g,h⟩,⟨i,j⟩,⟨k,l⟩⟩ ⟨p,q⟩).2],ds,glO ⟨⟨a,b⟩,⟨c,d⟩,⟨e,f'⟩⟩ ⟨⟨g,h⟩,⟨i,j⟩,⟨k,l⟩⟩ ⟨p,q⟩)
 | _,_ => none
end Bu
namespace Go.Proofs.YtejcekikbnlllaaGreat
open Go.RowKit Bu Rx
theorem I1_of {g:FuncId} {O:OracleF} (hO:OracleOk Tryz.prog O) {n:Nat} {E:I → List I × Int} {i:Nat} {o o':I → Obs} {l:Bool → List Bool} (run:∀ c b,valR ((run Tryz.prog EG O n).1 g [ivS c] [] (some (l b))) = some (.tup (bif b then [ivS I.zero,.si .i64 (E c).2] else [ivS (gt (E c).1 i),.i .i64 0]),some [],(neB (E c).2,b) :: o' c))
  (ho:∀ c,ObsOk (o c) → ObsOk (o' c)):PlainOk Tryz.prog g (kI1 (fun c => lnR (E c) i) o) := by
 intro args ds x ds' ob h hob
 unfold kI1 at h
 split at h
 ·rename_i a b
  simp only [Option.some.injEq,Prod.mk.injEq] at h
  obtain ⟨rfl,_,rfl⟩ := h
  refine ⟨[.agg #[.float .f64 a.b,.float .f64 b.b]],_,rfl,rfl,fun w => ?_⟩
  have r := run ⟨a,b⟩ (neB (E ⟨a,b⟩).2)
  unfold lnR
  cases k:neB (E ⟨a,b⟩).2 <;> rw [k] at r <;> exact calls_of_val goodG hO n r (ob_c rfl (ho _ hob)) rfl rfl w
 ·cases h
theorem I2_of {g:FuncId} {O:OracleF} (hO:OracleOk Tryz.prog O) {n:Nat} {E:I → I → List I × Int} {i:Nat} {o o':I → I → Obs} {l:Bool → List Bool} (run:∀ c d b,valR ((run Tryz.prog EG O n).1 g [ivS c,ivS d] [] (some (l b))) = some (.tup (bif b then [ivS I.zero,.si .i64 (E c d).2] else [ivS (gt (E c d).1 i),.i .i64 0]),some [],(neB (E c d).2,b) :: o' c d))
  (ho:∀ c d,ObsOk (o c d) → ObsOk (o' c d)):PlainOk Tryz.prog g (kI2 (fun c d => lnR (E c d) i) o) := by
 intro args ds x ds' ob h hob
 unfold kI2 at h
 split at h
 ·rename_i a b c d
  simp only [Option.some.injEq,Prod.mk.injEq] at h
  obtain ⟨rfl,_,rfl⟩ := h
  refine ⟨[.agg #[.float .f64 a.b,.float .f64 b.b],.agg #[.float .f64 c.b,.float .f64 d.b]],_,rfl,rfl,fun w => ?_⟩
  have r := run ⟨a,b⟩ ⟨c,d⟩ (neB (E ⟨a,b⟩ ⟨c,d⟩).2)
  unfold lnR
  cases k:neB (E ⟨a,b⟩ ⟨c,d⟩).2 <;> rw [k] at r <;> exact calls_of_val goodG hO n r (ob_c rfl (ho _ _ hob)) rfl rfl w
 ·cases h
theorem I3_of {g:FuncId} {O:OracleF} (hO:OracleOk Tryz.prog O) {n:Nat} {E:I → I → I → List I × Int} {i:Nat} {o o':I → I → I → Obs} {l:Bool → List Bool} (run:∀ c d e b,valR ((run Tryz.prog EG O n).1 g [ivS c,ivS d,ivS e] [] (some (l b))) = some (.tup (bif b then [ivS I.zero,.si .i64 (E c d e).2] else [ivS (gt (E c d e).1 i),.i .i64 0]),some [],(neB (E c d e).2,b) :: o' c d e))
  (ho:∀ c d e,ObsOk (o c d e) → ObsOk (o' c d e)):PlainOk Tryz.prog g (kI3 (fun c d e => lnR (E c d e) i) o) := by
 intro args ds x ds' ob h hob
 unfold kI3 at h
 split at h
 ·rename_i a b c d e f
  simp only [Option.some.injEq,Prod.mk.injEq] at h
  obtain ⟨rfl,_,rfl⟩ := h
  refine ⟨[.agg #[.float .f64 a.b,.float .f64 b.b],.agg #[.float .f64 c.b,.float .f64 d.b],.agg #[.float .f64 e.b,.float .f64 f.b]],_,rfl,rfl,fun w => ?_⟩
  have r := run ⟨a,b⟩ ⟨c,d⟩ ⟨e,f⟩ (neB (E ⟨a,b⟩ ⟨c,d⟩ ⟨e,f⟩).2)
  unfold lnR
  cases k:neB (E ⟨a,b⟩ ⟨c,d⟩ ⟨e,f⟩).2 <;> rw [k] at r <;> exact calls_of_val goodG hO n r (ob_c rfl (ho _ _ _ hob)) rfl rfl w
 ·cases h
theorem g2G:PlainOk Tryz.prog 301 (kI3 (fun c d al => lnR (g2K KkR c d al) 0) g2O) := I3_of oracleCL (l := fun b => [true,true,true,true,true,true,true,true,true,b]) (g2Run KkR) fun _ _ _ h => h
theorem fdG:PlainOk Tryz.prog 66 (kI2 (fun c n => lnR (fdK KkR c n) 0) fdO) := I2_of oracleCL (l := fun b => [true,true,false,false,false,false,b]) (fdRun KkR) fun c n h => by
 have a := ob_l h; have b := ob_r h
 exact ob_c (not_lt (ob_h a)) (ob_c (not_lt (ob_h (ob_t a))) (ob_c (not_lt (ob_h b)) (ob_c (not_lt (ob_h (ob_t b))) (ob_c (ob_h (ob_t (ob_t a))) (ob_c (ob_h (ob_t (ob_t b))) ob_n)))))
theorem fcG:PlainOk Tryz.prog 328 (kI3 (fun c m n => lnR (fcK KkR c m n) 0) fcO) := I3_of oracleCL (l := fun b => [true,true,true,false,false,false,false,false,false,b]) (fcRun KkR) fun c m n h => by
 have a := ob_l h; have b := ob_l (ob_r h); have e := ob_r (ob_r h)
 exact ob_c (not_lt (ob_h a)) (ob_c (not_lt (ob_h (ob_t a))) (ob_c (not_lt (ob_h b)) (ob_c (not_lt (ob_h (ob_t b))) (ob_c (not_lt (ob_h e)) (ob_c (not_lt (ob_h (ob_t e))) (ob_c (ob_h (ob_t (ob_t a))) (ob_c (ob_h (ob_t (ob_t b))) (ob_c (ob_h (ob_t (ob_t e))) ob_n))))))))
theorem lbG:PlainOk Tryz.prog 297 (kI1 (fun r => lnR (lbK KkR r) 0) u01O) := I1_of oracleCL (l := fun b => [true,false,false,b]) (lbRun KkR) fun r h =>
 ob_c (not_lt (ob_h h)) (ob_c (not_lt (ob_h (ob_t h))) (ob_c (ob_h (ob_t (ob_t h))) ob_n))
set_option maxRecDepth 100000 in
theorem hfG:PlainOk Tryz.prog 299 (kHf (miK KkR)) := by
 intro args ds x ds' ob h hob
 unfold kHf at h
 split at h
 ·rename_i a b c d e f g h' i j k l
  simp only [Option.some.injEq,Prod.mk.injEq] at h
  obtain ⟨rfl,_,rfl⟩ := h
  generalize hv:(⟨⟨a,b⟩,⟨c,d⟩,⟨e,f⟩⟩:V3) = v at *
  generalize hu:(⟨⟨g,h'⟩,⟨i,j⟩,⟨k,l⟩⟩:V3) = u at *
  have e1:(.agg [.fl a,.fl b,.fl c,.fl d,.fl e,.fl f]:SV) = v.sv := by subst hv; rfl
  have e2:(.agg [.fl g,.fl h',.fl i,.fl j,.fl k,.fl l]:SV) = u.sv := by subst hu; rfl
  rw [e1,e2]
  refine ⟨[.agg #[.float .f64 v.x.lo.b,.float .f64 v.x.hi.b,.float .f64 v.y.lo.b,.float .f64 v.y.hi.b,.float .f64 v.z.lo.b,.float .f64 v.z.hi.b],.agg #[.float .f64 u.x.lo.b,.float .f64 u.x.hi.b,.float .f64 u.y.lo.b,.float .f64 u.y.hi.b,.float .f64 u.z.lo.b,.float .f64 u.z.hi.b]],_,rfl,rfl,fun w => ?_⟩
  unfold lnR
  have r0 := hfRun0 KkR v u
  have r1 := hfRun1 KkR v u
  cases q:neB (miK KkR v u).2
  ·have z:(miK KkR v u).2 = 0 := neB_0 q
   rw [z]
   simp only [cond_false]
   generalize gt (miK KkR v u).1 0 = A at r0 ⊢
   generalize gt (miK KkR v u).1 3 = B at r0 ⊢
   exact calls_of_val goodG oracleLk 80 r0 (ob_c q hob) rfl rfl w
  ·exact calls_of_val goodG oracleLk 80 r1 (ob_c q hob) rfl rfl w
 ·cases h
def OGl (K:Kk) (G:GlK):OracleF := lookO (OCL K ++ [(298,kMlook),(299,plainO (kHf G.H)),(300,plainO (kGg G.d)),(301,plainO (kI3 G.b g2O)),(302,plainO (kGg G.o))])
def GlR:GlK := ⟨miK KkR,ggR KkR ggD,fun c d al => lnR (g2K KkR c d al) 0,ggR KkR gg1⟩
set_option maxRecDepth 100000 in
theorem oracleGl:OracleOk Tryz.prog (OGl KkR GlR) :=
 .cons addC <| .cons subC <| .cons mulC <| .cons divC <| .cons cmax_I <| .cons sqrC <| .cons csqrt_I <|
 .cons negC <|
 .cons numC <| .cons irtK.of <| .cons rightG.of <| .cons absG.of <| .cons vwG.of <| .cons piG.of <| .cons mlook_ok <| .cons hfG.of <| .cons ggDG.of <| .cons g2G.of <| .cons gg1G.of <| .nil _
def t3f:List Bool := [true,false,false]
def glO' (v u:V3) (al:I):Obs := (decide (one64.k < al.hi.k),false) :: (decide (al.lo.k < minA.k),false) :: (rt al,true) :: (dirO v ++ dirO u)
def glA (K:Kk) (G:GlK) (v u:V3) (al:I) (b:Bool):Obs := (neB (G.H v u).2,b) :: (dirO v ++ dirO u ++ glO' v u al)
def glB (K:Kk) (G:GlK) (v u:V3) (al:I) (b:Bool):Obs := (neB (G.d (glH G v u).1 al).2,b) :: (ggO (glH G v u).1 al ++ glA K G v u al false)
def glC (K:Kk) (G:GlK) (v u:V3) (al:I) (b:Bool):Obs := (neB (G.b v.z u.z al).2,b) :: (g2O v.z u.z al ++ glB K G v u al false)
def glD (K:Kk) (G:GlK) (v u:V3) (al:I) (b:Bool):Obs := (neB (G.o u.z al).2,b) :: (ggO u.z al ++ glC K G v u al false)
theorem glRunA (K:Kk) (G:GlK) (v u:V3) (al:I):valR ((run Tryz.prog EG (OGl K G) 80).1 234 [v.sv,u.sv,ivS al] [] (some (t3f ++ [true]))) = some (.tup [Gl4.zero.sv,.si .i64 (G.H v u).2],some [],glA K G v u al true) := by kernel_rfl
theorem glRunB (K:Kk) (G:GlK) (v u:V3) (al:I):valR ((run Tryz.prog EG (OGl K G) 80).1 234 [v.sv,u.sv,ivS al] [] (some (t3f ++ [false,true]))) = some (.tup [Gl4.zero.sv,.si .i64 (G.d (glH G v u).1 al).2],some [],glB K G v u al true) := by kernel_rfl
theorem glRunC (K:Kk) (G:GlK) (v u:V3) (al:I):valR ((run Tryz.prog EG (OGl K G) 80).1 234 [v.sv,u.sv,ivS al] [] (some (t3f ++ [false,false,true]))) = some (.tup [Gl4.zero.sv,.si .i64 (G.b v.z u.z al).2],some [],glC K G v u al true) := by kernel_rfl
theorem glRunD (K:Kk) (G:GlK) (v u:V3) (al:I):valR ((run Tryz.prog EG (OGl K G) 80).1 234 [v.sv,u.sv,ivS al] [] (some (t3f ++ [false,false,false,true]))) = some (.tup [Gl4.zero.sv,.si .i64 (G.o u.z al).2],some [],glD K G v u al true) := by kernel_rfl
theorem glRunE (K:Kk) (G:GlK) (v u:V3) (al:I):valR ((run Tryz.prog EG (OGl K G) 80).1 234 [v.sv,u.sv,ivS al] [] (some (t3f ++ [false,false,false,false,true]))) = some (.tup [Gl4.zero.sv,.si .i64 (glE K G v u al).2],some [],(neB (glE K G v u al).2,true) :: glD K G v u al false) := by kernel_rfl
theorem glRunF (K:Kk) (G:GlK) (v u:V3) (al:I):valR ((run Tryz.prog EG (OGl K G) 80).1 234 [v.sv,u.sv,ivS al] [] (some (t3f ++ [false,false,false,false,false]))) = some (.tup [(glV K G v u al).sv,.i .i64 0],some [],(neB (glE K G v u al).2,false) :: glD K G v u al false) := by kernel_rfl
end Go.Proofs.YtejcekikbnlllaaGreat
namespace Bu
open Rx Go
theorem hl_in {v u:V3} (h:(miK KkR v u).2 = 0):ObsOk (u01O (gt (miK KkR v u).1 0)) ∧ ObsOk (u01O (gt (miK KkR v u).1 3)) := by
 obtain ⟨_,k⟩ := eval_chain h
 unfold miK at *
 generalize (evalK KkR miH [u.z,u.y,u.x,v.z,v.y,v.x] 0).1 = r at *
 obtain ⟨ax,hax,ay,hay,az,haz,qx,hqx,qy,hqy,s1,hs1,qz,hqz,s2,hs2,n,hn,h0,hh0,h1,hh1,half,hhalf,l1,hl1,l2,hl2,lean,hlean,hend⟩ := k
 subst hend
 have zk:z64.k ≤ one64.k := by decide +kernel
 have kz:∀ {a b:I},rt a = true → b = keptI a z64 one64 → ObsOk (u01O b) := by
  intro a b ha hb
  subst hb
  obtain ⟨e1,e2⟩ := keptI_k a z64 one64
  have := of_decide_eq_true ha
  exact ob_c (decide_eq_true (by rw [e2]; omega)) (ob_c (decide_eq_true (by rw [e1]; omega)) (ob_c (keptI_rt ha) ob_n))
 have r1:rt h1 = true := AllR.rt hh1
 have r2:rt l2 = true := AllR.rt hl2.2
 exact ⟨kz r2 hlean,kz r1 hhalf⟩
theorem dir_z {v:V3} (h:ObsOk (dirO v)):ObsOk (u01O v.z) := ob_c (ob_h h) (ob_c (ob_h (ob_t h)) (ob_c (ob_h (ob_t (ob_t (ob_t (ob_t (ob_t (ob_t h))))))) ob_n))
theorem gg_of {c al:I} (h:ObsOk (u01O c)) (ha:ObsOk (alO al)):ObsOk (ggO c al) := ob_a h ha
end Bu
namespace Go.Proofs.YtejcekikbnlllaaGreat
open Go.RowKit Bu Rx
theorem g2_of {c d al:I} (h:ObsOk (u01O c)) (k:ObsOk (u01O d)) (ha:ObsOk (alO al)):ObsOk (g2O c d al) := ob_a k (ob_a h ha)
theorem plV (v:V3):plain v.sv = some (.agg #[.float .f64 v.x.lo.b,.float .f64 v.x.hi.b,.float .f64 v.y.lo.b,.float .f64 v.y.hi.b,.float .f64 v.z.lo.b,.float .f64 v.z.hi.b]) := rfl
theorem plI (a:I):plain (ivS a) = some (.agg #[.float .f64 a.lo.b,.float .f64 a.hi.b]) := rfl
theorem plG (g:Gl4) (k:Int):plain (.tup [g.sv,.si .i64 k]) = some (.tuple #[.agg #[.float .f64 g.ln.lo.b,.float .f64 g.ln.hi.b,.float .f64 g.hf.lo.b,.float .f64 g.hf.hi.b,.float .f64 g.v.lo.b,.float .f64 g.v.hi.b,.float .f64 g.d.lo.b,.float .f64 g.d.hi.b],.int .i64 k]) ∧ plain (.tup [g.sv,.i .i64 k]) = some (.tuple #[.agg #[.float .f64 g.ln.lo.b,.float .f64 g.ln.hi.b,.float .f64 g.hf.lo.b,.float .f64 g.hf.hi.b,.float .f64 g.v.lo.b,.float .f64 g.v.hi.b,.float .f64 g.d.lo.b,.float .f64 g.d.hi.b],.int .i64 k]) := ⟨rfl,rfl⟩
set_option maxRecDepth 100000 in
theorem glG:PlainOk Tryz.prog 234 (kGl (glR KkR GlR)) := by
 intro args ds x ds' ob h hob
 unfold kGl at h
 split at h
 ·rename_i a b c d e f g h' i j k l p q
  simp only [Option.some.injEq,Prod.mk.injEq] at h
  obtain ⟨rfl,_,rfl⟩ := h
  generalize hv:(⟨⟨a,b⟩,⟨c,d⟩,⟨e,f⟩⟩:V3) = v at *
  generalize hu:(⟨⟨g,h'⟩,⟨i,j⟩,⟨k,l⟩⟩:V3) = u at *
  generalize hal:(⟨p,q⟩:I) = al at *
  have e1:(.agg [.fl a,.fl b,.fl c,.fl d,.fl e,.fl f]:SV) = v.sv := by subst hv; rfl
  have e2:(.agg [.fl g,.fl h',.fl i,.fl j,.fl k,.fl l]:SV) = u.sv := by subst hu; rfl
  have e3:(.agg [.fl p,.fl q]:SV) = ivS al := by subst hal; rfl
  rw [e1,e2,e3]
  have oa:ObsOk (alO al) := ob_l hob
  have ov:ObsOk (dirO v) := ob_l (ob_r hob)
  have ou:ObsOk (dirO u) := ob_r (ob_r hob)
  have hargs := plains_cons (plV v) (plains_cons (plV u) (plains_cons (plI al) plains_nil))
  refine ⟨_,_,hargs,(plG _ _).1,fun w => ?_⟩
  have o':ObsOk (glO' v u al) := ob_c (not_lt (ob_h oa)) (ob_c (not_lt (ob_h (ob_t oa))) (ob_c (ob_h (ob_t (ob_t oa))) (ob_a ov ou)))
  have rA := glRunA KkR GlR v u al
  have rB := glRunB KkR GlR v u al
  have rC := glRunC KkR GlR v u al
  have rD := glRunD KkR GlR v u al
  have rE := glRunE KkR GlR v u al
  have rF := glRunF KkR GlR v u al
  have hl:(GlR.H v u).2 = 0 → ObsOk (u01O (glH GlR v u).1) := by
   intro z
   have := (hl_in (v := v) (u := u) z).1
   unfold glH lnR
   rw [show neB (GlR.H v u).2 = false by rw [z]; rfl]
   exact this
  unfold glR
  unfold glErr
  have oA:∀ t,neB (GlR.H v u).2 = t → ObsOk (glA KkR GlR v u al t) := fun t ht => ob_c ht (ob_a (ob_a ov ou) o')
  cases q1:neB (GlR.H v u).2
  ·have z1 := hl (neB_0 q1)
   have oB:∀ t,neB (GlR.d (glH GlR v u).1 al).2 = t → ObsOk (glB KkR GlR v u al t) := fun t ht => ob_c ht (ob_a (gg_of z1 oa) (oA _ q1))
   simp only [cond_false]
   cases q2:neB (GlR.d (glH GlR v u).1 al).2
   ·have oC:∀ t,neB (GlR.b v.z u.z al).2 = t → ObsOk (glC KkR GlR v u al t) := fun t ht => ob_c ht (ob_a (g2_of (dir_z ov) (dir_z ou) oa) (oB _ q2))
    simp only [cond_false]
    cases q3:neB (GlR.b v.z u.z al).2
    ·have oD:∀ t,neB (GlR.o u.z al).2 = t → ObsOk (glD KkR GlR v u al t) := fun t ht => ob_c ht (ob_a (gg_of (dir_z ou) oa) (oC _ q3))
     simp only [cond_false]
     cases q4:neB (GlR.o u.z al).2
     ·simp only [cond_false]
      cases q5:neB (glE KkR GlR v u al).2
      ·simp only [cond_false]
       generalize glV KkR GlR v u al = V at *
       exact calls_of_val goodG oracleGl 80 rF (ob_c q5 (oD _ q4)) hargs (plG _ _).2 w
      ·simp only [cond_true]
       exact calls_of_val goodG oracleGl 80 rE (ob_c q5 (oD _ q4)) hargs (plG _ _).1 w
     ·simp only [cond_true,q4]
      exact calls_of_val goodG oracleGl 80 rD (oD _ q4) hargs (plG _ _).1 w
    ·simp only [cond_true,q3]
     exact calls_of_val goodG oracleGl 80 rC (oC _ q3) hargs (plG _ _).1 w
   ·simp only [cond_true,q2]
    exact calls_of_val goodG oracleGl 80 rB (oB _ q2) hargs (plG _ _).1 w
  ·simp only [cond_true,q1]
   exact calls_of_val goodG oracleGl 80 rA (oA _ q1) hargs (plG _ _).1 w
 ·cases h
end Go.Proofs.YtejcekikbnlllaaGreat
namespace Rx
open Go Go.RowKit
theorem isSome_eq {α:Type} {x:Option α} {d:α} (h:x.isSome = true):x = some (x.getD d) := by cases x with
 | none => cases h
 | some a => rfl
def stO (P:Program) (E:ExtF) (O:OracleF) (n:Nat) (c:Code) (s:St):St := match (run P E O n).2 c s with | some (_,s') => s' | none => s
def exO (P:Program) (E:ExtF) (O:OracleF) (n:Nat) (c:Code) (s:St) (ex:Ex):Prop := (run P E O n).2 c s = some (ex,stO P E O n c s)
def rnO (P:Program) (E:ExtF) (O:OracleF) (n:Nat) (ops:Array Oper) (l:List Oper) (s:St):St := (runOps P E (run P E O n).1 ops l s).getD s
def opsOf:Code → Array Oper | .region _ ops _ => ops | _ => #[]
theorem calls_of_ends {P:Program} {g:FuncId} {fn:Func} {c:Code} {args:List SV} {x:SV} {vs:List Value} {v:Value} (hg:P.funcs[g]? = some fn) (hb:fn.body = some c) (hvs:plains args = some vs) (hv:plain x = some v) (w:World)
  (h:∀ (a:Act) (Q:Exit → Act → World → Prop),StAt Nms.no ⟨args ++ List.replicate (fn.ntmps - args.length) (.tup []),[],none,[]⟩ a w →
   (∀ m' s' a' w',resultS P fn s' = some x → StAt m' s' a' w' → Goes Nms.no [] w m' s'.M w' → Q .ret a' w') → c.wp P Q a w) :
  Calls P g vs.toArray w fun e w' => e = .returned v ∧ Below w.heap.size w w' := by
 have hvs' := dens_plains (m := Nms.no) hvs
 have hl := dens_length hvs'
 refine calls_of_wp hg hb ?_
 have htm:dens Nms.no (args ++ List.replicate (fn.ntmps - args.length) (.tup [])) = some (vs.toArray ++ Array.replicate (fn.ntmps - vs.toArray.size) undef).toList := by
  have := dens_append hvs' (dens_replicate (undef_den Nms.no) (fn.ntmps - args.length))
  rw [this]; simp [hl]
 refine h _ _ ⟨htm,rfl,MemAt.no w⟩ fun m' s' a' w' hx hst hgo => ?_
 obtain ⟨u,hu,hr⟩ := resultS_ok hst hx
 have := den_plain (m := m') hv
 rw [hu] at this
 simp only [Option.some.injEq] at this; subst this
 exact ⟨hst.df,u,hr,rfl,hgo.none⟩
end Rx
namespace Go.Proofs.YtejcekikbnlllaaGreat
open Go.RowKit Bu Rx
def nodeS (k:Int) (f:Nat → F):SV := .agg [.i .u8 k,.fl (f 0),.fl (f 1),.fl (f 2),.fl (f 3),.fl (f 4),.fl (f 5),.fl (f 6),.fl (f 7),.fl (f 8),.fl (f 9),.fl (f 10),.fl (f 11),.fl (f 12),.fl (f 13),.fl (f 14),.fl (f 15),.i .i64 0,.i .i64 0]
def leafS (k:Int) (f:Nat → F) (c:Int) (v u:V3):SV := .agg [.i .u8 k,.fl (f 0),.fl (f 1),.fl (f 2),.fl (f 3),.fl (f 4),.fl (f 5),.fl (f 6),.fl (f 7),.fl (f 8),.fl (f 9),.fl (f 10),.fl (f 11),.fl (f 12),.fl (f 13),.fl (f 14),.fl (f 15),.i .i64 0,.i .i64 0,.si .i64 c,.fl v.x.lo,.fl v.x.hi,.fl v.y.lo,.fl v.y.hi,.fl v.z.lo,.fl v.z.hi,.fl u.x.lo,.fl u.x.hi,.fl u.y.lo,.fl u.y.hi,.fl u.z.lo,.fl u.z.hi]
def kLk (o:SV → Obs):List SV → Dec → Option (SV × Dec × Obs)
 | [x],ds => some (.i .i64 0,ds,o x)
 | _,_ => none
def kLf (g:SV → I × Int) (o:SV → Obs):List SV → Dec → Option (SV × Dec × Obs)
 | [x],ds => some (.tup [.agg [.fl (g x).1.lo,.fl (g x).1.hi],.si .i64 (g x).2],ds,o x)
 | _,_ => none
structure Lfs where
 lk:SV → Obs
 g:SV → I × Int
 o:SV → Obs
noncomputable def OVl (L:Lfs) (m:Nat):OracleF := lookO [(232,plainO (kLk L.lk)),(m,plainO (kLf L.g L.o))]
noncomputable def vC:Code := bodyOf Tryz.prog 231
noncomputable def vR0:Code := seqL vC
noncomputable def vR1:Code := seqL (seqR vC)
noncomputable def vX:Code := seqL (seqR (seqR vC))
noncomputable def vR5:Code := seqL (seqR (seqR (seqR vC)))
noncomputable def vR6:Code := seqL (seqR (seqR (seqR (seqR vC))))
noncomputable def vT:Code := seqR (seqR (seqR (seqR (seqR vC))))
theorem vC_cut:vC = .seq vR0 (.seq vR1 (.seq vX (.seq vR5 (.seq vR6 vT)))) := by kernel_rfl
theorem vBody:Tryz.f231.body = some vC := by kernel_rfl
theorem vR5_ops:vR5 = .region 5 (opsOf vR5) false := by kernel_rfl
theorem vR6_ops:vR6 = .region 6 (opsOf vR6) false := by kernel_rfl
section
variable (L:Lfs) (g:Nat) (k:Int) (f:Nat → F) (c:Int) (v u:V3) (r:Nat)
def vArgs:List SV := [nodeS k f,.si .i64 c,v.sv,u.sv]
noncomputable def vs0:St := ⟨vArgs k f c v u ++ List.replicate 30 (.tup []),[],none,[]⟩
noncomputable def vs1:St := stO Tryz.prog EG (OVl L g) 60 vR0 (vs0 k f c v u)
noncomputable def vs2:St := stO Tryz.prog EG (OVl L g) 60 vR1 (vs1 L g k f c v u)
noncomputable def vs3:St := stO Tryz.prog EG (OVl L g) 60 vX (vs2 L g k f c v u)
noncomputable def vsM:St := ⟨putT (some 24) (.o (.map (some r))) (vs3 L g k f c v u).T,(vs3 L g k f c v u).M,(vs3 L g k f c v u).ds,(vs3 L g k f c v u).ob⟩
noncomputable def vs5:St := rnO Tryz.prog EG (OVl L g) 60 (opsOf vR5) ((opsOf vR5).toList.drop 5) (vsM L g k f c v u r)
noncomputable def vs6:St := rnO Tryz.prog EG (OVl L g) 60 (opsOf vR6) ((opsOf vR6).toList.take 3) (vs5 L g k f c v u r)
noncomputable def vsL:St := ⟨putT (some 29) (.fn (.func g) [] []) (vs6 L g k f c v u r).T,(vs6 L g k f c v u r).M,(vs6 L g k f c v u r).ds,(vs6 L g k f c v u r).ob⟩
noncomputable def vs7:St := rnO Tryz.prog EG (OVl L g) 60 (opsOf vR6) ((opsOf vR6).toList.drop 4) (vsL L g k f c v u r)
noncomputable def vs8:St := stO Tryz.prog EG (OVl L g) 60 vT (vs7 L g k f c v u r)
theorem ve0:exO Tryz.prog EG (OVl L g) 60 vR0 (vs0 k f c v u) .normal := by unfold exO; kernel_rfl
theorem ve1:exO Tryz.prog EG (OVl L g) 60 vR1 (vs1 L g k f c v u) .normal := by unfold exO; kernel_rfl
theorem ve2:exO Tryz.prog EG (OVl L g) 60 vX (vs2 L g k f c v u) .normal := by unfold exO; kernel_rfl
theorem ve5:(runOps Tryz.prog EG (run Tryz.prog EG (OVl L g) 60).1 (opsOf vR5) ((opsOf vR5).toList.drop 5) (vsM L g k f c v u r)).isSome = true := by kernel_rfl
theorem ve6:(runOps Tryz.prog EG (run Tryz.prog EG (OVl L g) 60).1 (opsOf vR6) ((opsOf vR6).toList.take 3) (vs5 L g k f c v u r)).isSome = true := by kernel_rfl
theorem vob1:(vs1 L g k f c v u).ob = [] := by kernel_rfl
theorem vob2:(vs2 L g k f c v u).ob = [] := by kernel_rfl
theorem vob3:(vs3 L g k f c v u).ob = L.lk (leafS k f c v u) ++ [] := by kernel_rfl
theorem vob5:(vs5 L g k f c v u r).ob = L.lk (leafS k f c v u) ++ [] := by kernel_rfl
theorem vob6:(vs6 L g k f c v u r).ob = L.lk (leafS k f c v u) ++ [] := by kernel_rfl
theorem vlen3:(vs3 L g k f c v u).T.length = 34 := by kernel_rfl
theorem vop26:oper (vs6 L g k f c v u r).T (.tmp 26) = .o (.map (some r)) := by kernel_rfl
theorem vop28:oper (vs6 L g k f c v u r).T (.tmp 28) = .i .u8 k := by kernel_rfl
end
noncomputable def o5 (i:Nat):Oper := (opsOf vR5).toList.getD i default
noncomputable def o6 (i:Nat):Oper := (opsOf vR6).toList.getD i default
theorem l5:(opsOf vR5).toList = o5 0 :: o5 1 :: o5 2 :: o5 3 :: o5 4 :: (opsOf vR5).toList.drop 5 := by kernel_rfl
theorem l6:(opsOf vR6).toList = (opsOf vR6).toList.take 3 ++ o6 3 :: (opsOf vR6).toList.drop 4 := by kernel_rfl
theorem g5:(o5 0).guard = none ∧ (o5 1).guard = none ∧ (o5 2).guard = none ∧ (o5 3).guard = none ∧ (o5 4).guard = none ∧ (o6 3).guard = none := ⟨by kernel_rfl,by kernel_rfl,by kernel_rfl,by kernel_rfl,by kernel_rfl,by kernel_rfl⟩
theorem d5:(o5 0).dst = some 24 ∧ (o5 1).dst = none ∧ (o5 2).dst = none ∧ (o5 3).dst = none ∧ (o5 4).dst = none ∧ (o6 3).dst = some 29 := ⟨by kernel_rfl,by kernel_rfl,by kernel_rfl,by kernel_rfl,by kernel_rfl,by kernel_rfl⟩
theorem p5:(o5 0).op = Op.makeMap 309 none ∧ (o5 1).op = Op.insert 309 (.tmp 24) (.const (.int .u8 1)) (.func 292) ∧ (o5 2).op = Op.insert 309 (.tmp 24) (.const (.int .u8 2)) (.func 293) ∧ (o5 3).op = Op.insert 309 (.tmp 24) (.const (.int .u8 3)) (.func 294) ∧ (o5 4).op = Op.insert 309 (.tmp 24) (.const (.int .u8 4)) (.func 295) ∧ (o6 3).op = Op.lookup 309 (.tmp 26) (.tmp 28) false := ⟨by kernel_rfl,by kernel_rfl,by kernel_rfl,by kernel_rfl,by kernel_rfl,by kernel_rfl⟩
theorem uM:Tryz.prog.underlying 309 = some (.map 5 308) := by kernel_rfl
theorem uK:Tryz.prog.underlying 5 = some (.int .u8) := by kernel_rfl
theorem zF (w:World):(zeroValue 308).run Tryz.prog w = .ok .nilFunc w := by kernel_rfl
attribute [irreducible] o5 o6 vC vR0 vR1 vX vR5 vR6 vT
set_option maxRecDepth 100000 in
set_option maxHeartbeats 1000000 in
theorem value_of {L:Lfs} {g:Nat} {k:Int} (f:Nat → F) (c:Int) (v u:V3) (hO:OracleOk Tryz.prog (OVl L g)) (hwf:(Lit.int .u8 k).wf = true)
  (hat:(tabD 292 293 294 295).atKey (.int .u8 k) (.lit (.bool false)) = .lit (.int .i64 (g:Int)))
  (h7:∀ r,(runOps Tryz.prog EG (run Tryz.prog EG (OVl L g) 60).1 (opsOf vR6) ((opsOf vR6).toList.drop 4) (vsL L g k f c v u r)).isSome = true)
  (h8:∀ r,exO Tryz.prog EG (OVl L g) 60 vT (vs7 L g k f c v u r) .ret)
  (hob7:∀ r,(vs7 L g k f c v u r).ob = L.o (leafS k f c v u) ++ (L.lk (leafS k f c v u) ++ [])) (hob8:∀ r,(vs8 L g k f c v u r).ob = L.o (leafS k f c v u) ++ (L.lk (leafS k f c v u) ++ []))
  (hres:∀ r,resultS Tryz.prog Tryz.f231 (vs8 L g k f c v u r) = some (.tup [ivS (L.g (leafS k f c v u)).1,.si .i64 (L.g (leafS k f c v u)).2]))
  (hlk:ObsOk (L.lk (leafS k f c v u))) (ho:ObsOk (L.o (leafS k f c v u))) {vs:List Value} (hvs:plains (vArgs k f c v u) = some vs) (w:World) :
  Calls Tryz.prog 231 vs.toArray w fun e w' => e = .returned (.tuple #[.agg #[.float .f64 (L.g (leafS k f c v u)).1.lo.b,.float .f64 (L.g (leafS k f c v u)).1.hi.b],.int .i64 (L.g (leafS k f c v u)).2]) ∧ Below w.heap.size w w' := by
 have hl0:ObsOk (L.lk (leafS k f c v u) ++ []) := ob_a hlk ob_n
 have hall:ObsOk (L.o (leafS k f c v u) ++ (L.lk (leafS k f c v u) ++ [])) := ob_a ho hl0
 have hcall := (run_ok goodG hO 60).1
 refine calls_of_ends (x := .tup [ivS (L.g (leafS k f c v u)).1,.si .i64 (L.g (leafS k f c v u)).2]) Tryz.func231 vBody hvs rfl w fun a Q hs hq => ?_
 rw [vC_cut]
 refine wp_seq (RunsTo.of goodG hO (ve0 L g k f c v u) (by show ObsOk (vs1 L g k f c v u).ob; rw [vob1]; exact ob_n) _ a w _ hs fun m1 a1 w1 hs1 go1 => ?_)
 refine wp_seq (RunsTo.of goodG hO (ve1 L g k f c v u) (by show ObsOk (vs2 L g k f c v u).ob; rw [vob2]; exact ob_n) m1 a1 w1 _ hs1 fun m2 a2 w2 hs2 go2 => ?_)
 refine wp_seq (RunsTo.of goodG hO (ve2 L g k f c v u) (by show ObsOk (vs3 L g k f c v u).ob; rw [vob3]; exact hl0) m2 a2 w2 _ hs2 fun m3 a3 w3 hs3 go3 => ?_)
 have hs3':StAt m3 (vs3 L g k f c v u) a3 w3 := hs3
 refine wp_seq ?_
 rw [vR5_ops]
 refine wp_region_list ?_
 rw [l5]
 have hsz:24 < a3.tmps.size := by
  have e := dens_length hs3'.tm
  rw [vlen3] at e
  have:a3.tmps.toList.length = a3.tmps.size := Array.length_toList
  omega
 obtain ⟨q0,q1,q2,q3,q4,q5⟩ := g5
 obtain ⟨e0,e1,e2,e3,e4,e5⟩ := d5
 obtain ⟨p0,p1,p2,p3,p4,p6⟩ := p5
 refine tab_made uK uM q0 q1 q2 q3 q4 p0 e0 e1 e2 e3 e4 p1 p2 p3 p4 hsz hs3' fun r aM wM own hbM hr hsM goM => ?_
 have h5 := isSome_eq (d := vsM L g k f c v u r) (ve5 L g k f c v u r)
 refine runOps_ok goodG hcall h5 (by show ObsOk (vs5 L g k f c v u r).ob; rw [vob5]; exact hl0) hsM fun m5 a5 w5 hs5 go5 => ?_
 refine wp_seq ?_
 rw [vR6_ops]
 refine wp_region_list ?_
 rw [l6]
 have h6 := isSome_eq (d := vs5 L g k f c v u r) (ve6 L g k f c v u r)
 refine runOps_then goodG hcall h6 (by show ObsOk (vs6 L g k f c v u r).ob; rw [vob6]; exact hl0) hs5 fun m6 a6 w6 hs6 go6 => ?_
 have hs6':StAt m6 (vs6 L g k f c v u r) a6 w6 := hs6
 have rM:r < wM.heap.size := own.lt
 have n3:∀ n,m3 n ≠ some r := fun n h => by have := hs3'.mem.ok.lt n r h; omega
 have n5:∀ n,m5 n ≠ some r := fun n h => by
  rcases go5.new n r h with h | h | ⟨q,h,_⟩
  ·exact n3 n h
  ·omega
  ·exact n3 q h
 have b5 := go5.fr.block r rM (fun ⟨n,h,_⟩ => n3 n h)
 have b6 := go6.fr.block r (Nat.lt_of_lt_of_le rM go5.fr.size) (fun ⟨n,h,_⟩ => n5 n h)
 have own6:w6.ownsMap Tryz.prog 5 fnR r 4 (tabD 292 293 294 295) := by
  obtain ⟨es,cl,hb,rest⟩ := own
  exact ⟨es,cl,(b6.trans b5).trans hb,rest⟩
 have v26:a6.eval (.tmp 26) = .map (some r) := by
  have h := oper_ok hs6'.tm (.tmp 26)
  rw [vop26] at h
  simp [den] at h; exact h.symm
 have v28:a6.eval (.tmp 28) = .int .u8 k := by
  have h := oper_ok hs6'.tm (.tmp 28)
  rw [vop28] at h
  simp [den] at h; exact h.symm
 refine wpList_lookup_fn w6 q5 _ _ _ p6 _ _ (Go.Maps.int_keyed uK) uM (zF w6) r 4 _ v26 own6 _ _ v28 (Go.Maps.keyOf_int_mk uK hwf) g hat ?_
 rw [e5]
 have hsL:StAt m6 (vsL L g k f c v u r) (a6.put (some 29) (.func (.func g) #[] #[])) w6 := ⟨putT_ok hs6'.tm (x := .fn (.func g) [] []) (by simp [den,dens]) (some 29),hs6'.df,hs6'.mem⟩
 have h7' := isSome_eq (d := vsL L g k f c v u r) (h7 r)
 refine runOps_ok goodG hcall h7' (by show ObsOk (vs7 L g k f c v u r).ob; rw [hob7]; exact hall) hsL fun m7 a7 w7 hs7 go7 => ?_
 refine RunsTo.of goodG hO (h8 r) (by show ObsOk (vs8 L g k f c v u r).ob; rw [hob8]; exact hall) m7 a7 w7 _ hs7 fun m8 a8 w8 hs8 go8 => ?_
 exact hq m8 _ a8 w8 (hres r) hs8 (((((((go1.trans go2).trans go3).trans goM).trans go5).trans go6).trans go7).trans go8)
end Go.Proofs.YtejcekikbnlllaaGreat
namespace Bu
open Rx Go
def q3E (f b:Nat → F) (i:Nat):Bool := decide ((f i).k = (b i).k) && (decide ((f (i + 1)).k = (b (i + 1)).k) && (decide ((f (i + 2)).k = (b (i + 2)).k) && true))
def eqNd (f b:Nat → F):Bool := q3E f b 0 && (q3E f b 3 && (q3E f b 6 && (q3E f b 9 && (decide ((f 12).k = (b 12).k) && (decide ((f 13).k = (b 13).k) && (decide ((f 14).k = (b 14).k) && (decide ((f 15).k = (b 15).k) && ((0:Int) == 0 && ((0:Int) == 0 && true)))))))))
def bare1 (f:Nat → F) (i:Nat):F := bif Nat.blt i 3 then f i else z64
def bare2 (f:Nat → F) (i:Nat):F := bif Nat.blt i 3 || Nat.beq i 12 then f i else z64
def bare3 (f:Nat → F) (i:Nat):F := bif Nat.beq i 13 || Nat.beq i 14 then f i else z64
def bare4 (f:Nat → F) (i:Nat):F := bif Nat.beq i 13 || (Nat.blt 5 i && Nat.blt i 12) then f i else z64
def rngO (x l h:F) (o:Obs):Obs := (decide (h.k < x.k),false) :: (decide (x.k < l.k),false) :: o
def rtO1 (f:Nat → F):Obs := (eqNd f (bare1 f),true) :: rngO (f 2) z64 one64 (rngO (f 1) z64 one64 (rngO (f 0) z64 one64 []))
def rtO2 (f:Nat → F):Obs := (eqNd f (bare2 f),true) :: rngO (f 12) z64 one64 (rngO (f 2) z64 one64 (rngO (f 1) z64 one64 (rngO (f 0) z64 one64 [])))
def rtO3 (f:Nat → F):Obs := (eqNd f (bare3 f),true) :: rngO (f 14) minIo four64 (rngO (f 13) minA one64 [])
def rtO4 (f:Nat → F):Obs := (eqNd f (bare4 f),true) :: rngO (f 11) minMt maxMt (rngO (f 10) minMt maxMt (rngO (f 9) minMt maxMt (rngO (f 8) minMt maxMt (rngO (f 7) minMt maxMt (rngO (f 6) minMt maxMt (rngO (f 13) minA one64 []))))))
def rtOb (k:Int) (f:Nat → F):Obs := match k with
 | 1 => rtO1 f
 | 2 => rtO2 f
 | 3 => rtO3 f
 | 4 => rtO4 f
 | _ => [(false,true)]
def orA:List Op := [.mul 2 1,.sub 1 0,.kept mone64 one64 0,.lit (PIc),.num (two64),.num (one64),.div 2 1,.num (three64),.div 3 0,.sub 2 0,.mul 0 13,.add 7 0,.div 6 0,.mul 16 0,.mul 0 11,.add 2 0,.mul 20 0,.kept z64 one64 0]
def orB:List Op := [.mul 2 1,.sub 1 0,.max 4 3,.div 1 0,.kept mone64 one64 0,.lit (PIc),.num (two64),.num (one64),.div 2 1,.num (three64),.div 3 0,.sub 2 0,.mul 0 15,.add 7 0,.div 6 0,.mul 18 0,.mul 0 11,.add 2 0,.mul 22 0,.kept z64 one64 0]
def posH (a:I):I := ⟨z64,a.hi⟩
def negH (a:I):I := ⟨a.lo,z64⟩
def orC:List Op := [.mul 2 1,.sub 1 0,.fn (posH) 0,.max 5 4,.div 1 0,.fn (negH) 3,.fn2 (hullI) 0 1,.kept mone64 one64 0,.lit (PIc),.num (two64),.num (one64),.div 2 1,.num (three64),.div 3 0,.sub 2 0,.mul 0 18,.add 7 0,.div 6 0,.mul 21 0,.mul 0 11,.add 2 0,.mul 25 0,.kept z64 one64 0]
def orQ (K:Kk) (i o d:I):I := (K.sub (K.mul 0 i o).2 d (K.mul 0 i o).1).1
def orE (K:Kk) (l:List Op) (rho sg i o d:I):List I × Int := evalK K l [d,o,i,sg,rho] 0
def orOb (rho sg i o d:I):Obs := rng2 d mone64 (rng2 o z64 (rng2 i z64 (rng2 sg z64 (rng2 rho z64 [(rt d,true),(rt o,true),(rt i,true),(rt sg,true),(rt rho,true)]))))
where rng2 (a:I) (l:F) (o:Obs):Obs := (decide (one64.k < a.hi.k),false) :: (decide (a.lo.k < l.k),false) :: o
end Bu
namespace Go.Proofs.YtejcekikbnlllaaGreat
open Go.RowKit Bu Rx
theorem rtRun1 (K:Kk) (f:Nat → F):valR ((run Tryz.prog EG (lookO (OCL K)) 80).1 296 [nodeS 1 f] [] (some [false,false,false,false,false,false,true])) = some (.b true,some [],rtO1 f) := by kernel_rfl
theorem rtRun2 (K:Kk) (f:Nat → F):valR ((run Tryz.prog EG (lookO (OCL K)) 80).1 296 [nodeS 2 f] [] (some [false,false,false,false,false,false,false,false,true])) = some (.b true,some [],rtO2 f) := by kernel_rfl
theorem rtRun3 (K:Kk) (f:Nat → F):valR ((run Tryz.prog EG (lookO (OCL K)) 80).1 296 [nodeS 3 f] [] (some [false,false,false,false,true])) = some (.b true,some [],rtO3 f) := by kernel_rfl
theorem rtRun4 (K:Kk) (f:Nat → F):valR ((run Tryz.prog EG (lookO (OCL K)) 80).1 296 [nodeS 4 f] [] (some [false,false,false,false,false,false,false,false,false,false,false,false,false,false,true])) = some (.b true,some [],rtO4 f) := by kernel_rfl
def OOr (K:Kk):OracleF := lookO (OCL K ++ [(157,plainO (oI2 hullI))])
def t15f:List Bool := [true,true,true,true,true,false,false,false,false,false,false,false,false,false,false]
theorem orRunA (K:Kk) (r s i o d:I) (b:Bool):valR ((run Tryz.prog EG (OOr K) 80).1 324 [ivS r,ivS s,ivS i,ivS o,ivS d] [] (some (t15f ++ [true,b]))) = some (.tup (bif b then [ivS I.zero,.si .i64 (orE K orA r s i o d).2] else [ivS (gt (orE K orA r s i o d).1 0),.i .i64 0]),some [],(neB (orE K orA r s i o d).2,b) :: (decide ((orQ K i o d).hi.k ≤ z64.k),true) :: orOb r s i o d) := by cases b <;> kernel_rfl
theorem orRunB (K:Kk) (r s i o d:I) (b:Bool):valR ((run Tryz.prog EG (OOr K) 80).1 324 [ivS r,ivS s,ivS i,ivS o,ivS d] [] (some (t15f ++ [false,true,b]))) = some (.tup (bif b then [ivS I.zero,.si .i64 (orE K orB r s i o d).2] else [ivS (gt (orE K orB r s i o d).1 0),.i .i64 0]),some [],(neB (orE K orB r s i o d).2,b) :: (decide (z64.k ≤ (orQ K i o d).lo.k),true) :: (decide ((orQ K i o d).hi.k ≤ z64.k),false) :: orOb r s i o d) := by cases b <;> kernel_rfl
theorem orRunC (K:Kk) (r s i o d:I) (b:Bool):valR ((run Tryz.prog EG (OOr K) 80).1 324 [ivS r,ivS s,ivS i,ivS o,ivS d] [] (some (t15f ++ [false,false,b]))) = some (.tup (bif b then [ivS I.zero,.si .i64 (orE K orC r s i o d).2] else [ivS (gt (orE K orC r s i o d).1 0),.i .i64 0]),some [],(neB (orE K orC r s i o d).2,b) :: (decide (z64.k ≤ (orQ K i o d).lo.k),false) :: (decide ((orQ K i o d).hi.k ≤ z64.k),false) :: orOb r s i o d) := by cases b <;> kernel_rfl
end Go.Proofs.YtejcekikbnlllaaGreat
namespace Bu
open Rx Go
def dtP:List Op := [.mul 5 2,.mul 5 2,.add 1 0,.mul 6 3,.add 1 0,.kept mone64 one64 0]
def dtK (K:Kk) (v u:V3):List I × Int := evalK K dtP [u.z,u.y,u.x,v.z,v.y,v.x] 0
def pF (x:F):I := ⟨x,x⟩
structure Gm where
 gl:V3 → V3 → I → Gl4 × Int
 dl:I → I → I × Int
 cd:I → I → I → I × Int
 lb:I → I × Int
 od:I → I → I → I → I → I × Int
def kI5 (f:I → I → I → I → I → I × Int) (o:I → I → I → I → I → Obs):List SV → Dec → Option (SV × Dec × Obs)
 | [.agg [.fl a,.fl b],.agg [.fl c,.fl d],.agg [.fl e,.fl g],.agg [.fl h,.fl i],.agg [.fl j,.fl k]],ds => some (.tup [.agg [.fl (f ⟨a,b⟩ ⟨c,d⟩ ⟨e,g⟩ ⟨h,i⟩ ⟨j,k⟩).1.lo,.fl (f ⟨a,b⟩ ⟨c,d⟩ ⟨e,g⟩ ⟨h,i⟩ ⟨j,k⟩).1.hi],.si .i64 (f ⟨a,b⟩ ⟨c,d⟩ ⟨e,g⟩ ⟨h,i⟩ ⟨j,k⟩).2],ds,o ⟨a,b⟩ ⟨c,d⟩ ⟨e,g⟩ ⟨h,i⟩ ⟨j,k⟩)
 | _,_ => none
def orO5 (r s i o d:I):Obs := bndO r z64 one64 ++ (bndO s z64 one64 ++ (bndO i z64 one64 ++ (bndO o z64 one64 ++ bndO d mone64 one64)))
def orR (K:Kk) (r s i o d:I):I × Int := bif decide ((orQ K i o d).hi.k ≤ z64.k) then lnR (orE K orA r s i o d) 0 else bif decide (z64.k ≤ (orQ K i o d).lo.k) then lnR (orE K orB r s i o d) 0 else lnR (orE K orC r s i o d) 0
def glM (K:Kk) (g:Gl4 × Int) (r:I × Int):I × Int := bif neB g.2 then (I.zero,g.2) else bif neB r.2 then (I.zero,r.2) else bif neB (K.mul 0 g.1.v r.1).2 then (I.zero,(K.mul 0 g.1.v r.1).2) else ((K.mul 0 g.1.v r.1).1,0)
def meL (G:Gm) (f:Nat → F) (c:Nat):I × Int := G.lb (pF (f c))
def meO (K:Kk) (G:Gm) (f:Nat → F) (c:Nat) (v u:V3):I × Int := bif neB (dtK K v u).2 then (I.zero,(dtK K v u).2) else G.od (pF (f c)) (pF (f 12)) v.z u.z (gt (dtK K v u).1 0)
def meP (K:Kk) (G:Gm) (f:Nat → F) (v u:V3):I × Int := glM K (G.gl v u (pF (f 13))) (G.dl (G.gl v u (pF (f 13))).1.hf (pF (f 14)))
def meM (K:Kk) (G:Gm) (f:Nat → F) (c:Nat) (v u:V3):I × Int := glM K (G.gl v u (pF (f 13))) (G.cd (G.gl v u (pF (f 13))).1.hf (pF (f (6 + c))) (pF (f (9 + c))))
end Bu
namespace Go.Proofs.YtejcekikbnlllaaGreat
open Go.RowKit Bu Rx
def leafI (k:Int) (f:Nat → F) (c:Int) (v u:V3):SV := .agg [.i .u8 k,.fl (f 0),.fl (f 1),.fl (f 2),.fl (f 3),.fl (f 4),.fl (f 5),.fl (f 6),.fl (f 7),.fl (f 8),.fl (f 9),.fl (f 10),.fl (f 11),.fl (f 12),.fl (f 13),.fl (f 14),.fl (f 15),.i .i64 0,.i .i64 0,.i .i64 c,.fl v.x.lo,.fl v.x.hi,.fl v.y.lo,.fl v.y.hi,.fl v.z.lo,.fl v.z.hi,.fl u.x.lo,.fl u.x.hi,.fl u.y.lo,.fl u.y.hi,.fl u.z.lo,.fl u.z.hi]
def ndF (a0 a1 a2 a3 a4 a5 a6 a7 a8 a9 a10 a11 a12 a13 a14 a15:F) (i:Nat):F := [a0,a1,a2,a3,a4,a5,a6,a7,a8,a9,a10,a11,a12,a13,a14,a15].getD i z64
def kRt (o:Int → (Nat → F) → Obs):List SV → Dec → Option (SV × Dec × Obs)
 | [.agg [.i .u8 k,.fl a0,.fl a1,.fl a2,.fl a3,.fl a4,.fl a5,.fl a6,.fl a7,.fl a8,.fl a9,.fl a10,.fl a11,.fl a12,.fl a13,.fl a14,.fl a15,.i .i64 0,.i .i64 0]],ds => some (.b true,ds,o k (ndF a0 a1 a2 a3 a4 a5 a6 a7 a8 a9 a10 a11 a12 a13 a14 a15))
 | _,_ => none
theorem rtK:PlainOk Tryz.prog 296 (kRt rtOb) := by
 intro args ds x ds' ob h ho
 unfold kRt at h
 split at h
 ·rename_i k a0 a1 a2 a3 a4 a5 a6 a7 a8 a9 a10 a11 a12 a13 a14 a15
  simp only [Option.some.injEq,Prod.mk.injEq] at h
  obtain ⟨rfl,_,rfl⟩ := h
  generalize hf:ndF a0 a1 a2 a3 a4 a5 a6 a7 a8 a9 a10 a11 a12 a13 a14 a15 = f at ho
  have e:(.agg [.i .u8 k,.fl a0,.fl a1,.fl a2,.fl a3,.fl a4,.fl a5,.fl a6,.fl a7,.fl a8,.fl a9,.fl a10,.fl a11,.fl a12,.fl a13,.fl a14,.fl a15,.i .i64 0,.i .i64 0]:SV) = nodeS k f := by subst hf; rfl
  rw [e]
  refine ⟨[.agg #[.int .u8 k,.float .f64 (f 0).b,.float .f64 (f 1).b,.float .f64 (f 2).b,.float .f64 (f 3).b,.float .f64 (f 4).b,.float .f64 (f 5).b,.float .f64 (f 6).b,.float .f64 (f 7).b,.float .f64 (f 8).b,.float .f64 (f 9).b,.float .f64 (f 10).b,.float .f64 (f 11).b,.float .f64 (f 12).b,.float .f64 (f 13).b,.float .f64 (f 14).b,.float .f64 (f 15).b,.int .i64 0,.int .i64 0]],_,rfl,rfl,fun w => ?_⟩
  unfold rtOb at ho
  split at ho
  ·exact calls_of_val goodG oracleCL 80 (rtRun1 KkR f) ho rfl rfl w
  ·exact calls_of_val goodG oracleCL 80 (rtRun2 KkR f) ho rfl rfl w
  ·exact calls_of_val goodG oracleCL 80 (rtRun3 KkR f) ho rfl rfl w
  ·exact calls_of_val goodG oracleCL 80 (rtRun4 KkR f) ho rfl rfl w
  ·exact absurd (ob_h ho) (by simp)
 ·cases h
def OLo (o:Int → (Nat → F) → Obs) (r:I → Bool):OracleF := lookO [(296,plainO (kRt o)),(67,plainO (kBI r))]
theorem oracleLo:OracleOk Tryz.prog (OLo rtOb rt) := .cons rtK.of (.cons irtK.of (.nil _))
def t20:List Bool := [true,true,true,true,true,true,true,true,true,true,true,true,true,true,true,true,true,true,true,true]
end Go.Proofs.YtejcekikbnlllaaGreat
namespace Bu
open Rx Go
structure Lf where
 k:Int
 f:Nat → F
 c:Int
 v:V3
 u:V3
end Bu
namespace Go.Proofs.YtejcekikbnlllaaGreat
open Go.RowKit Bu Rx
def etaF (f:Nat → F):Nat → F := ndF (f 0) (f 1) (f 2) (f 3) (f 4) (f 5) (f 6) (f 7) (f 8) (f 9) (f 10) (f 11) (f 12) (f 13) (f 14) (f 15)
def lfOf:SV → Option Lf
 | .agg [.i .u8 k, .fl a0, .fl a1, .fl a2, .fl a3, .fl a4, .fl a5, .fl a6, .fl a7, .fl a8, .fl a9, .fl a10, .fl a11, .fl a12, .fl a13, .fl a14, .fl a15, .i .i64 0, .i .i64 0, ch, .fl p0, .fl p1, .fl p2, .fl p3, .fl p4, .fl p5, .fl r0, .fl r1, .fl r2, .fl r3, .fl r4, .fl r5] => match intS ch with
   | some (.i64,c) => some ⟨k,ndF a0 a1 a2 a3 a4 a5 a6 a7 a8 a9 a10 a11 a12 a13 a14 a15,c,⟨⟨p0,p1⟩,⟨p2,p3⟩,⟨p4,p5⟩⟩,⟨⟨r0,r1⟩,⟨r2,r3⟩,⟨r4,r5⟩⟩⟩
   | _ => none
 | _ => none
theorem lfOf_S (k:Int) (f:Nat → F) (c:Int) (v u:V3):lfOf (leafS k f c v u) = some ⟨k,etaF f,c,v,u⟩ := rfl
def leafV (l:Lf):Value := .agg #[.int .u8 l.k,.float .f64 (l.f 0).b,.float .f64 (l.f 1).b,.float .f64 (l.f 2).b,.float .f64 (l.f 3).b,.float .f64 (l.f 4).b,.float .f64 (l.f 5).b,.float .f64 (l.f 6).b,.float .f64 (l.f 7).b,.float .f64 (l.f 8).b,.float .f64 (l.f 9).b,.float .f64 (l.f 10).b,.float .f64 (l.f 11).b,.float .f64 (l.f 12).b,.float .f64 (l.f 13).b,.float .f64 (l.f 14).b,.float .f64 (l.f 15).b,.int .i64 0,.int .i64 0,.int .i64 l.c,.float .f64 l.v.x.lo.b,.float .f64 l.v.x.hi.b,.float .f64 l.v.y.lo.b,.float .f64 l.v.y.hi.b,.float .f64 l.v.z.lo.b,.float .f64 l.v.z.hi.b,.float .f64 l.u.x.lo.b,.float .f64 l.u.x.hi.b,.float .f64 l.u.y.lo.b,.float .f64 l.u.y.hi.b,.float .f64 l.u.z.lo.b,.float .f64 l.u.z.hi.b]
theorem lfOf_plain {x:SV} {l:Lf} (h:lfOf x = some l):plains [x] = some [leafV l] := by
 unfold lfOf at h
 split at h
 ·split at h
  ·rename_i c hc
   simp only [Option.some.injEq] at h
   subst h
   have hp := intS_plain hc
   simp only [plains,plain,hp,Option.bind_some,Option.map_some]
   rfl
  ·cases h
 ·cases h
theorem leaf_pl (l:Lf):plains [leafS l.k l.f l.c l.v l.u] = some [leafV l] ∧ plains [leafI l.k l.f l.c l.v l.u] = some [leafV l] := ⟨rfl,rfl⟩
def lfB (o:Lf → Obs) (x:SV):Obs := match lfOf x with
 | some l => o l
 | none => [(false,true)]
def lfG (g:Lf → I × Int) (x:SV):I × Int := match lfOf x with
 | some l => g l
 | none => (I.zero,0)
theorem lfB_in {o:Lf → Obs} {x:SV} (h:ObsOk (lfB o x)):∃ l,lfOf x = some l ∧ ObsOk (o l) := by
 unfold lfB at h
 split at h
 ·rename_i l e; exact ⟨l,e,h⟩
 ·exact absurd (ob_h h) (by simp)
theorem kLk_of {m:FuncId} {o:Lf → Obs} (h:∀ l,ObsOk (o l) → ∀ w,Calls Tryz.prog m #[leafV l] w fun e w' => e = .returned (.int .i64 0) ∧ Below w.heap.size w w'):PlainOk Tryz.prog m (kLk (lfB o)) := by
 intro args ds x ds' ob hk ho
 unfold kLk at hk
 split at hk
 ·rename_i y
  simp only [Option.some.injEq,Prod.mk.injEq] at hk
  obtain ⟨rfl,_,rfl⟩ := hk
  obtain ⟨l,e,ol⟩ := lfB_in ho
  exact ⟨_,_,lfOf_plain e,rfl,fun w => h l ol w⟩
 ·cases hk
theorem kLf_of {m:FuncId} {g:Lf → I × Int} {o:Lf → Obs} (h:∀ l,ObsOk (o l) → ∀ w,Calls Tryz.prog m #[leafV l] w fun e w' => e = .returned (.tuple #[.agg #[.float .f64 (g l).1.lo.b,.float .f64 (g l).1.hi.b],.int .i64 (g l).2]) ∧ Below w.heap.size w w'):PlainOk Tryz.prog m (kLf (lfG g) (lfB o)) := by
 intro args ds x ds' ob hk ho
 unfold kLf at hk
 split at hk
 ·rename_i y
  simp only [Option.some.injEq,Prod.mk.injEq] at hk
  obtain ⟨rfl,_,rfl⟩ := hk
  obtain ⟨l,e,ol⟩ := lfB_in ho
  refine ⟨_,_,lfOf_plain e,rfl,fun w => ?_⟩
  have e2:lfG g y = g l := by unfold lfG; rw [e]
  rw [e2]
  exact h l ol w
 ·cases hk
theorem lookRun (o:Int → (Nat → F) → Obs) (r:I → Bool) (k:Int) (f:Nat → F) (c:Int) (v u:V3):valR ((run Tryz.prog EG (OLo o r) 80).1 232 [leafS k f c v u] [] (some t20)) = some (.i .i64 0,some [],[(decide (u.z.hi.k ≤ one64.k),true),(decide (z64.k ≤ u.z.lo.k),true),(decide (u.y.hi.k ≤ one64.k),true),(decide (mone64.k ≤ u.y.lo.k),true),(decide (u.x.hi.k ≤ one64.k),true),(decide (mone64.k ≤ u.x.lo.k),true),(r u.z,true),(r u.y,true),(r u.x,true),(decide (v.z.hi.k ≤ one64.k),true),(decide (z64.k ≤ v.z.lo.k),true),(decide (v.y.hi.k ≤ one64.k),true),(decide (mone64.k ≤ v.y.lo.k),true),(decide (v.x.hi.k ≤ one64.k),true),(decide (mone64.k ≤ v.x.lo.k),true),(r v.z,true),(r v.y,true),(r v.x,true),(decide (c < 3),true),(decide (0 ≤ c),true)] ++ (o k (etaF f) ++ [])) := by kernel_rfl
def lkOl (l:Lf):Obs := dirO l.u ++ (dirO l.v ++ ([(decide (l.c < 3),true),(decide (0 ≤ l.c),true)] ++ rtOb l.k (etaF l.f)))
theorem lookK:PlainOk Tryz.prog 232 (kLk (lfB lkOl)) := kLk_of fun l ho w =>
 calls_of_val goodG oracleLo 80 (lookRun rtOb rt l.k l.f l.c l.v l.u) (ob_a (a := dirO l.u ++ (dirO l.v ++ [(decide (l.c < 3),true),(decide (0 ≤ l.c),true)])) (ob_a (ob_l ho) (ob_a (ob_l (ob_r ho)) (ob_l (ob_r (ob_r ho))))) (ob_a (ob_r (ob_r (ob_r ho))) ob_n)) (leaf_pl l).1 rfl w
def OMe (K:Kk) (G:Gm):OracleF := lookO (OCL K ++ [(234,plainO (kGl G.gl)),(66,plainO (kI2 G.dl fdO)),(328,plainO (kI3 G.cd fcO)),(297,plainO (kI1 G.lb u01O)),(324,plainO (kI5 G.od orO5))])
theorem meLRun (K:Kk) (G:Gm) (k:Int) (f:Nat → F) (v u:V3) (c:Nat) (hc:c < 3):valR ((run Tryz.prog EG (OMe K G) 80).1 292 [leafI k f c v u] [] (some [])) = some (.tup [ivS (meL G f c).1,.si .i64 (meL G f c).2],some [],u01O (pF (f c))) := by
 rcases (by omega:c = 0 ∨ c = 1 ∨ c = 2) with rfl | rfl | rfl <;> kernel_rfl
theorem meORun1 (K:Kk) (G:Gm) (k:Int) (f:Nat → F) (v u:V3) (c:Nat) (hc:c < 3):valR ((run Tryz.prog EG (OMe K G) 80).1 293 [leafI k f c v u] [] (some [true])) = some (.tup [ivS I.zero,.si .i64 (dtK K v u).2],some [],[(neB (dtK K v u).2,true)]) := by
 rcases (by omega:c = 0 ∨ c = 1 ∨ c = 2) with rfl | rfl | rfl <;> kernel_rfl
theorem meORun0 (K:Kk) (G:Gm) (k:Int) (f:Nat → F) (v u:V3) (c:Nat) (hc:c < 3):valR ((run Tryz.prog EG (OMe K G) 80).1 293 [leafI k f c v u] [] (some [false])) = some (.tup [ivS (G.od (pF (f c)) (pF (f 12)) v.z u.z (gt (dtK K v u).1 0)).1,.si .i64 (G.od (pF (f c)) (pF (f 12)) v.z u.z (gt (dtK K v u).1 0)).2],some [],orO5 (pF (f c)) (pF (f 12)) v.z u.z (gt (dtK K v u).1 0) ++ [(neB (dtK K v u).2,false)]) := by
 rcases (by omega:c = 0 ∨ c = 1 ∨ c = 2) with rfl | rfl | rfl <;> kernel_rfl
def mpO (G:Gm) (f:Nat → F) (v u:V3) (b:Bool):Obs := (neB (G.gl v u (pF (f 13))).2,b) :: glO v u (pF (f 13))
def mpB (G:Gm) (f:Nat → F) (v u:V3) (b:Bool):Obs := (neB (G.dl (G.gl v u (pF (f 13))).1.hf (pF (f 14))).2,b) :: (fdO (G.gl v u (pF (f 13))).1.hf (pF (f 14)) ++ mpO G f v u false)
theorem mePRunA (K:Kk) (G:Gm) (k:Int) (f:Nat → F) (c:Int) (v u:V3):valR ((run Tryz.prog EG (OMe K G) 80).1 294 [leafI k f c v u] [] (some [true])) = some (.tup [ivS I.zero,.si .i64 (G.gl v u (pF (f 13))).2],some [],mpO G f v u true) := by kernel_rfl
theorem mePRunB (K:Kk) (G:Gm) (k:Int) (f:Nat → F) (c:Int) (v u:V3):valR ((run Tryz.prog EG (OMe K G) 80).1 294 [leafI k f c v u] [] (some [false,true])) = some (.tup [ivS I.zero,.si .i64 (G.dl (G.gl v u (pF (f 13))).1.hf (pF (f 14))).2],some [],mpB G f v u true) := by kernel_rfl
def meX (K:Kk) (G:Gm) (f:Nat → F) (v u:V3):I × Int := K.mul 0 (G.gl v u (pF (f 13))).1.v (G.dl (G.gl v u (pF (f 13))).1.hf (pF (f 14))).1
theorem mePRunC (K:Kk) (G:Gm) (k:Int) (f:Nat → F) (c:Int) (v u:V3) (b:Bool):valR ((run Tryz.prog EG (OMe K G) 80).1 294 [leafI k f c v u] [] (some [false,false,b])) = some (.tup (bif b then [ivS I.zero,.si .i64 (meX K G f v u).2] else [ivS (meX K G f v u).1,.i .i64 0]),some [],(neB (meX K G f v u).2,b) :: mpB G f v u false) := by cases b <;> kernel_rfl
def mmB (G:Gm) (f:Nat → F) (c:Nat) (v u:V3) (b:Bool):Obs := (neB (G.cd (G.gl v u (pF (f 13))).1.hf (pF (f (6 + c))) (pF (f (9 + c)))).2,b) :: (fcO (G.gl v u (pF (f 13))).1.hf (pF (f (6 + c))) (pF (f (9 + c))) ++ mpO G f v u false)
def meY (K:Kk) (G:Gm) (f:Nat → F) (c:Nat) (v u:V3):I × Int := K.mul 0 (G.gl v u (pF (f 13))).1.v (G.cd (G.gl v u (pF (f 13))).1.hf (pF (f (6 + c))) (pF (f (9 + c)))).1
theorem meMRunA (K:Kk) (G:Gm) (k:Int) (f:Nat → F) (c:Int) (v u:V3):valR ((run Tryz.prog EG (OMe K G) 80).1 295 [leafI k f c v u] [] (some [true])) = some (.tup [ivS I.zero,.si .i64 (G.gl v u (pF (f 13))).2],some [],mpO G f v u true) := by kernel_rfl
theorem meMRunB (K:Kk) (G:Gm) (k:Int) (f:Nat → F) (v u:V3) (c:Nat) (hc:c < 3):valR ((run Tryz.prog EG (OMe K G) 80).1 295 [leafI k f c v u] [] (some [false,true])) = some (.tup [ivS I.zero,.si .i64 (G.cd (G.gl v u (pF (f 13))).1.hf (pF (f (6 + c))) (pF (f (9 + c)))).2],some [],mmB G f c v u true) := by
 rcases (by omega:c = 0 ∨ c = 1 ∨ c = 2) with rfl | rfl | rfl <;> kernel_rfl
theorem meMRunC (K:Kk) (G:Gm) (k:Int) (f:Nat → F) (v u:V3) (c:Nat) (hc:c < 3) (b:Bool):valR ((run Tryz.prog EG (OMe K G) 80).1 295 [leafI k f c v u] [] (some [false,false,b])) = some (.tup (bif b then [ivS I.zero,.si .i64 (meY K G f c v u).2] else [ivS (meY K G f c v u).1,.i .i64 0]),some [],(neB (meY K G f c v u).2,b) :: mmB G f c v u false) := by
 rcases (by omega:c = 0 ∨ c = 1 ∨ c = 2) with rfl | rfl | rfl <;> cases b <;> kernel_rfl
end Go.Proofs.YtejcekikbnlllaaGreat
namespace Bu
open Rx Go
theorem dt_in {v u:V3} (h:(dtK KkR v u).2 = 0):ObsOk (bndO (gt (dtK KkR v u).1 0) mone64 one64) := by
 obtain ⟨_,k⟩ := eval_chain h
 unfold dtK at *
 generalize (evalK KkR dtP [u.z,u.y,u.x,v.z,v.y,v.x] 0).1 = r at *
 obtain ⟨p1,hp1,p2,hp2,s1,hs1,p3,hp3,s2,hs2,dot,hdot,hend⟩ := k
 subst hend
 have zk:mone64.k ≤ one64.k := by decide +kernel
 have r2:rt s2 = true := dn_up hs2.1 hs2.2 (by
  have a:rt s1 = true := dn_up hs1.1 hs1.2 (by
   have b:rt p1 = true := AllR.rt hp1
   have c:rt p2 = true := AllR.rt hp2
   have := rt_le b; have := rt_le c
   show p1.lo.q + p2.lo.q ≤ p1.hi.q + p2.hi.q
   grind)
  have d:rt p3 = true := AllR.rt hp3
  have := rt_le a; have := rt_le d
  show s1.lo.q + p3.lo.q ≤ s1.hi.q + p3.hi.q
  grind)
 have hd:dot = keptI s2 mone64 one64 := hdot
 show ObsOk (bndO dot mone64 one64)
 rw [hd]
 obtain ⟨e1,e2⟩ := keptI_k s2 mone64 one64
 exact ob_c (decide_eq_true (by rw [e2]; omega)) (ob_c (decide_eq_true (by rw [e1]; omega)) (ob_c (keptI_rt r2) ob_n))
end Bu
namespace Go.Proofs.YtejcekikbnlllaaGreat
open Go.RowKit Bu Rx
def GmR:Gm := ⟨glR KkR GlR,fun c n => lnR (fdK KkR c n) 0,fun c m n => lnR (fcK KkR c m n) 0,fun r => lnR (lbK KkR r) 0,orR KkR⟩
theorem gl_half {v u:V3} {al:I} (h:neB (glR KkR GlR v u al).2 = false):ObsOk (u01O (glR KkR GlR v u al).1.hf) := by
 unfold glR at h ⊢
 cases c:neB (glErr KkR GlR v u al)
 ·rw [cond_false]
  have e:(GlR.H v u).2 = 0 := by
   unfold glErr at c
   cases c2:neB (GlR.H v u).2
   ·exact neB_0 c2
   ·rw [c2,cond_true,c2] at c; cases c
  have k := (hl_in (v := v) (u := u) e).2
  show ObsOk (u01O (lnR (GlR.H v u) 3).1)
  unfold lnR
  rw [show neB (GlR.H v u).2 = false by rw [e]; rfl]
  exact k
 ·rw [c,cond_true,c] at h; cases h
theorem oracleOOr:OracleOk Tryz.prog (OOr KkR) :=
 .cons addC <| .cons subC <| .cons mulC <| .cons divC <| .cons cmax_I <| .cons sqrC <| .cons csqrt_I <|
 .cons negC <|
 .cons numC <| .cons irtK.of <| .cons rightG.of <| .cons absG.of <| .cons vwG.of <| .cons piG.of <| .cons hullG.of <| .nil _
theorem orO_ok {r s i o d:I} (h:ObsOk (orO5 r s i o d)):ObsOk (orOb r s i o d) := by
 have a := ob_l h; have b := ob_l (ob_r h); have c := ob_l (ob_r (ob_r h)); have e := ob_l (ob_r (ob_r (ob_r h))); have g := ob_r (ob_r (ob_r (ob_r h)))
 have two:∀ {x:I} {l:F} {p:Obs},ObsOk (bndO x l one64) → ObsOk p → ObsOk ((decide (one64.k < x.hi.k),false) :: (decide (x.lo.k < l.k),false) :: p) := fun h k => ob_c (not_lt (ob_h h)) (ob_c (not_lt (ob_h (ob_t h))) k)
 have rr:∀ {x:I} {l:F},ObsOk (bndO x l one64) → rt x = true := fun h => ob_h (ob_t (ob_t h))
 exact two g (two e (two c (two b (two a (ob_c (rr g) (ob_c (rr e) (ob_c (rr c) (ob_c (rr b) (ob_c (rr a) ob_n)))))))))
theorem orG_of (K:Kk) (hO:OracleOk Tryz.prog (OOr K)):PlainOk Tryz.prog 324 (kI5 (orR K) orO5) := by
 intro args ds x ds' ob h hob
 unfold kI5 at h
 split at h
 ·rename_i a b c d e g hh i j k
  simp only [Option.some.injEq,Prod.mk.injEq] at h
  obtain ⟨rfl,_,rfl⟩ := h
  refine ⟨[.agg #[.float .f64 a.b,.float .f64 b.b],.agg #[.float .f64 c.b,.float .f64 d.b],.agg #[.float .f64 e.b,.float .f64 g.b],.agg #[.float .f64 hh.b,.float .f64 i.b],.agg #[.float .f64 j.b,.float .f64 k.b]],_,rfl,rfl,fun w => ?_⟩
  have o := orO_ok hob
  have rA := orRunA K ⟨a,b⟩ ⟨c,d⟩ ⟨e,g⟩ ⟨hh,i⟩ ⟨j,k⟩ (neB (orE K orA ⟨a,b⟩ ⟨c,d⟩ ⟨e,g⟩ ⟨hh,i⟩ ⟨j,k⟩).2)
  have rB := orRunB K ⟨a,b⟩ ⟨c,d⟩ ⟨e,g⟩ ⟨hh,i⟩ ⟨j,k⟩ (neB (orE K orB ⟨a,b⟩ ⟨c,d⟩ ⟨e,g⟩ ⟨hh,i⟩ ⟨j,k⟩).2)
  have rC := orRunC K ⟨a,b⟩ ⟨c,d⟩ ⟨e,g⟩ ⟨hh,i⟩ ⟨j,k⟩ (neB (orE K orC ⟨a,b⟩ ⟨c,d⟩ ⟨e,g⟩ ⟨hh,i⟩ ⟨j,k⟩).2)
  unfold orR
  generalize orE K orA ⟨a,b⟩ ⟨c,d⟩ ⟨e,g⟩ ⟨hh,i⟩ ⟨j,k⟩ = A at *
  generalize orE K orB ⟨a,b⟩ ⟨c,d⟩ ⟨e,g⟩ ⟨hh,i⟩ ⟨j,k⟩ = B at *
  generalize orE K orC ⟨a,b⟩ ⟨c,d⟩ ⟨e,g⟩ ⟨hh,i⟩ ⟨j,k⟩ = C at *
  unfold lnR
  cases q1:decide ((orQ K ⟨e,g⟩ ⟨hh,i⟩ ⟨j,k⟩).hi.k ≤ z64.k)
  ·cases q2:decide (z64.k ≤ (orQ K ⟨e,g⟩ ⟨hh,i⟩ ⟨j,k⟩).lo.k)
   ·cases q:neB C.2 <;> rw [q] at rC <;> exact calls_of_val goodG hO 80 rC (ob_c rfl (ob_c q2 (ob_c q1 o))) rfl rfl w
   ·cases q:neB B.2 <;> rw [q] at rB <;> exact calls_of_val goodG hO 80 rB (ob_c rfl (ob_c q2 (ob_c q1 o))) rfl rfl w
  ·cases q:neB A.2 <;> rw [q] at rA <;> exact calls_of_val goodG hO 80 rA (ob_c rfl (ob_c q1 o)) rfl rfl w
 ·cases h
theorem orG:PlainOk Tryz.prog 324 (kI5 (orR KkR) orO5) := orG_of KkR oracleOOr
set_option maxRecDepth 100000 in
theorem oracleMe:OracleOk Tryz.prog (OMe KkR GmR) :=
 .cons addC <| .cons subC <| .cons mulC <| .cons divC <| .cons cmax_I <| .cons sqrC <| .cons csqrt_I <|
 .cons negC <|
 .cons numC <| .cons irtK.of <| .cons rightG.of <| .cons absG.of <| .cons vwG.of <| .cons piG.of <| .cons glG.of <| .cons fdG.of <| .cons fcG.of <| .cons lbG.of <| .cons orG.of <| .nil _
def chO (l:Lf):Obs := [(decide (l.c < 3),true),(decide (0 ≤ l.c),true)]
def olL (l:Lf):Obs := chO l ++ u01O (pF (l.f l.c.toNat))
def olO (l:Lf):Obs := chO l ++ (bndO (pF (l.f l.c.toNat)) z64 one64 ++ (bndO (pF (l.f 12)) z64 one64 ++ (dirO l.v ++ dirO l.u)))
def olP (l:Lf):Obs := glO l.v l.u (pF (l.f 13)) ++ bndO (pF (l.f 14)) minIo four64
def olM (l:Lf):Obs := chO l ++ (glO l.v l.u (pF (l.f 13)) ++ (bndO (pF (l.f (6 + l.c.toNat))) minMt maxMt ++ bndO (pF (l.f (9 + l.c.toNat))) minMt maxMt))
theorem ch_in {l:Lf} (h:ObsOk (chO l)):∃ c:Nat,c < 3 ∧ l.c = (c:Int) := by
 have a := of_decide_eq_true (ob_h h)
 have b := of_decide_eq_true (ob_h (ob_t h))
 obtain ⟨c,e⟩ := Int.eq_ofNat_of_zero_le b
 exact ⟨c,by omega,e⟩
theorem plIt (a:I) (k:Int):plain (.tup [ivS a,.si .i64 k]) = some (.tuple #[.agg #[.float .f64 a.lo.b,.float .f64 a.hi.b],.int .i64 k]) ∧ plain (.tup [ivS a,.i .i64 k]) = some (.tuple #[.agg #[.float .f64 a.lo.b,.float .f64 a.hi.b],.int .i64 k]) := ⟨rfl,rfl⟩
theorem lambK_of (K:Kk) (G:Gm) (hO:OracleOk Tryz.prog (OMe K G)):PlainOk Tryz.prog 292 (kLf (lfG fun l => meL G l.f l.c.toNat) (lfB olL)) := kLf_of fun l ho w => by
 obtain ⟨k,f,c,v,u⟩ := l
 obtain ⟨n,hn,e⟩ := ch_in (ob_l ho)
 simp only at e
 subst e
 exact calls_of_val goodG hO 80 (meLRun K G k f v u n hn) (ob_r ho) (leaf_pl ⟨k,f,n,v,u⟩).2 (plIt _ _).1 w
theorem lambK:PlainOk Tryz.prog 292 (kLf (lfG fun l => meL GmR l.f l.c.toNat) (lfB olL)) := lambK_of KkR GmR oracleMe
theorem orenK_of (K:Kk) (G:Gm) (hO:OracleOk Tryz.prog (OMe K G)) (hD:∀ v u,(dtK K v u).2 = 0 → ObsOk (bndO (gt (dtK K v u).1 0) mone64 one64)):PlainOk Tryz.prog 293 (kLf (lfG fun l => meO K G l.f l.c.toNat l.v l.u) (lfB olO)) := kLf_of fun l ho w => by
 obtain ⟨k,f,c,v,u⟩ := l
 obtain ⟨n,hn,e⟩ := ch_in (ob_l ho)
 simp only at e
 subst e
 have r0 := meORun0 K G k f v u n hn
 have r1 := meORun1 K G k f v u n hn
 show Calls _ _ _ _ fun e w' => e = .returned (.tuple #[.agg #[.float .f64 (meO K G f n v u).1.lo.b,.float .f64 (meO K G f n v u).1.hi.b],.int .i64 (meO K G f n v u).2]) ∧ _
 unfold meO
 cases q:neB (dtK K v u).2
 ·have hd := hD v u (neB_0 q)
  have o:ObsOk (orO5 (pF (f n)) (pF (f 12)) v.z u.z (gt (dtK K v u).1 0) ++ [(neB (dtK K v u).2,false)]) :=
   ob_a (ob_a (ob_l (ob_r ho)) (ob_a (ob_l (ob_r (ob_r ho))) (ob_a (dir_z (ob_l (ob_r (ob_r (ob_r ho))))) (ob_a (dir_z (ob_r (ob_r (ob_r (ob_r ho))))) hd)))) (ob_c q ob_n)
  exact calls_of_val goodG hO 80 r0 o (leaf_pl ⟨k,f,n,v,u⟩).2 (plIt _ _).1 w
 ·exact calls_of_val goodG hO 80 r1 (ob_c q ob_n) (leaf_pl ⟨k,f,n,v,u⟩).2 (plIt _ _).1 w
theorem orenK:PlainOk Tryz.prog 293 (kLf (lfG fun l => meO KkR GmR l.f l.c.toNat l.v l.u) (lfB olO)) := orenK_of KkR GmR oracleMe (fun v u h => dt_in h)
theorem plasK_of (K:Kk) (G:Gm) (hO:OracleOk Tryz.prog (OMe K G)) (hG:∀ v u al,neB (G.gl v u al).2 = false → ObsOk (u01O (G.gl v u al).1.hf)):PlainOk Tryz.prog 294 (kLf (lfG fun l => meP K G l.f l.v l.u) (lfB olP)) := kLf_of fun l ho w => by
 obtain ⟨k,f,c,v,u⟩ := l
 have rA := mePRunA K G k f c v u
 have rB := mePRunB K G k f c v u
 have rC := mePRunC K G k f c v u (neB (meX K G f v u).2)
 show Calls _ _ _ _ fun e w' => e = .returned (.tuple #[.agg #[.float .f64 (meP K G f v u).1.lo.b,.float .f64 (meP K G f v u).1.hi.b],.int .i64 (meP K G f v u).2]) ∧ _
 have og:ObsOk (glO v u (pF (f 13))) := ob_l ho
 unfold meP glM
 cases q1:neB (G.gl v u (pF (f 13))).2
 ·have hh:ObsOk (u01O (G.gl v u (pF (f 13))).1.hf) := hG _ _ _ q1
  have oB:∀ t,neB (G.dl (G.gl v u (pF (f 13))).1.hf (pF (f 14))).2 = t → ObsOk (mpB G f v u t) := fun t ht => ob_c ht (ob_a (ob_a (ob_r ho) hh) (ob_c q1 og))
  cases q2:neB (G.dl (G.gl v u (pF (f 13))).1.hf (pF (f 14))).2
  ·have e:K.mul 0 (G.gl v u (pF (f 13))).1.v (G.dl (G.gl v u (pF (f 13))).1.hf (pF (f 14))).1 = meX K G f v u := rfl
   simp only [cond_false]
   rw [e]
   generalize meX K G f v u = X at *
   cases q3:neB X.2 <;> rw [q3] at rC
   ·exact calls_of_val goodG hO 80 rC (ob_c rfl (oB _ q2)) (leaf_pl ⟨k,f,c,v,u⟩).2 (plIt _ _).2 w
   ·exact calls_of_val goodG hO 80 rC (ob_c rfl (oB _ q2)) (leaf_pl ⟨k,f,c,v,u⟩).2 (plIt _ _).1 w
  ·exact calls_of_val goodG hO 80 rB (oB _ q2) (leaf_pl ⟨k,f,c,v,u⟩).2 (plIt _ _).1 w
 ·exact calls_of_val goodG hO 80 rA (ob_c q1 og) (leaf_pl ⟨k,f,c,v,u⟩).2 (plIt _ _).1 w
theorem plasK:PlainOk Tryz.prog 294 (kLf (lfG fun l => meP KkR GmR l.f l.v l.u) (lfB olP)) := plasK_of KkR GmR oracleMe (fun v u al h => gl_half h)
theorem metaK_of (K:Kk) (G:Gm) (hO:OracleOk Tryz.prog (OMe K G)) (hG:∀ v u al,neB (G.gl v u al).2 = false → ObsOk (u01O (G.gl v u al).1.hf)):PlainOk Tryz.prog 295 (kLf (lfG fun l => meM K G l.f l.c.toNat l.v l.u) (lfB olM)) := kLf_of fun l ho w => by
 obtain ⟨k,f,c,v,u⟩ := l
 obtain ⟨n,hn,e⟩ := ch_in (ob_l ho)
 simp only at e
 subst e
 have rA := meMRunA K G k f n v u
 have rB := meMRunB K G k f v u n hn
 have rC := meMRunC K G k f v u n hn (neB (meY K G f n v u).2)
 show Calls _ _ _ _ fun e w' => e = .returned (.tuple #[.agg #[.float .f64 (meM K G f n v u).1.lo.b,.float .f64 (meM K G f n v u).1.hi.b],.int .i64 (meM K G f n v u).2]) ∧ _
 have og:ObsOk (glO v u (pF (f 13))) := ob_l (ob_r ho)
 unfold meM glM
 cases q1:neB (G.gl v u (pF (f 13))).2
 ·have hh:ObsOk (u01O (G.gl v u (pF (f 13))).1.hf) := hG _ _ _ q1
  have oB:∀ t,neB (G.cd (G.gl v u (pF (f 13))).1.hf (pF (f (6 + n))) (pF (f (9 + n)))).2 = t → ObsOk (mmB G f n v u t) := fun t ht => ob_c ht (ob_a (ob_a (ob_r (ob_r (ob_r ho))) (ob_a (ob_l (ob_r (ob_r ho))) hh)) (ob_c q1 og))
  cases q2:neB (G.cd (G.gl v u (pF (f 13))).1.hf (pF (f (6 + n))) (pF (f (9 + n)))).2
  ·have e:K.mul 0 (G.gl v u (pF (f 13))).1.v (G.cd (G.gl v u (pF (f 13))).1.hf (pF (f (6 + n))) (pF (f (9 + n)))).1 = meY K G f n v u := rfl
   simp only [cond_false]
   rw [e]
   generalize meY K G f n v u = X at *
   cases q3:neB X.2 <;> rw [q3] at rC
   ·exact calls_of_val goodG hO 80 rC (ob_c rfl (oB _ q2)) (leaf_pl ⟨k,f,n,v,u⟩).2 (plIt _ _).2 w
   ·exact calls_of_val goodG hO 80 rC (ob_c rfl (oB _ q2)) (leaf_pl ⟨k,f,n,v,u⟩).2 (plIt _ _).1 w
  ·exact calls_of_val goodG hO 80 rB (oB _ q2) (leaf_pl ⟨k,f,n,v,u⟩).2 (plIt _ _).1 w
 ·exact calls_of_val goodG hO 80 rA (ob_c q1 og) (leaf_pl ⟨k,f,n,v,u⟩).2 (plIt _ _).1 w
theorem metaK:PlainOk Tryz.prog 295 (kLf (lfG fun l => meM KkR GmR l.f l.c.toNat l.v l.u) (lfB olM)) := metaK_of KkR GmR oracleMe (fun v u al h => gl_half h)
section
variable (L:Lfs) (k:Int) (f:Nat → F) (c:Int) (v u:V3) (r:Nat)
theorem va7_1:(runOps Tryz.prog EG (run Tryz.prog EG (OVl L 292) 60).1 (opsOf vR6) ((opsOf vR6).toList.drop 4) (vsL L 292 k f c v u r)).isSome = true := by kernel_rfl
theorem va8_1:exO Tryz.prog EG (OVl L 292) 60 vT (vs7 L 292 k f c v u r) .ret := by unfold exO; kernel_rfl
theorem vb7_1:(vs7 L 292 k f c v u r).ob = L.o (leafS k f c v u) ++ (L.lk (leafS k f c v u) ++ []) := by kernel_rfl
theorem vb8_1:(vs8 L 292 k f c v u r).ob = L.o (leafS k f c v u) ++ (L.lk (leafS k f c v u) ++ []) := by kernel_rfl
theorem vrs_1:resultS Tryz.prog Tryz.f231 (vs8 L 292 k f c v u r) = some (.tup [ivS (L.g (leafS k f c v u)).1,.si .i64 (L.g (leafS k f c v u)).2]) := by kernel_rfl
theorem va7_2:(runOps Tryz.prog EG (run Tryz.prog EG (OVl L 293) 60).1 (opsOf vR6) ((opsOf vR6).toList.drop 4) (vsL L 293 k f c v u r)).isSome = true := by kernel_rfl
theorem va8_2:exO Tryz.prog EG (OVl L 293) 60 vT (vs7 L 293 k f c v u r) .ret := by unfold exO; kernel_rfl
theorem vb7_2:(vs7 L 293 k f c v u r).ob = L.o (leafS k f c v u) ++ (L.lk (leafS k f c v u) ++ []) := by kernel_rfl
theorem vb8_2:(vs8 L 293 k f c v u r).ob = L.o (leafS k f c v u) ++ (L.lk (leafS k f c v u) ++ []) := by kernel_rfl
theorem vrs_2:resultS Tryz.prog Tryz.f231 (vs8 L 293 k f c v u r) = some (.tup [ivS (L.g (leafS k f c v u)).1,.si .i64 (L.g (leafS k f c v u)).2]) := by kernel_rfl
theorem va7_3:(runOps Tryz.prog EG (run Tryz.prog EG (OVl L 294) 60).1 (opsOf vR6) ((opsOf vR6).toList.drop 4) (vsL L 294 k f c v u r)).isSome = true := by kernel_rfl
theorem va8_3:exO Tryz.prog EG (OVl L 294) 60 vT (vs7 L 294 k f c v u r) .ret := by unfold exO; kernel_rfl
theorem vb7_3:(vs7 L 294 k f c v u r).ob = L.o (leafS k f c v u) ++ (L.lk (leafS k f c v u) ++ []) := by kernel_rfl
theorem vb8_3:(vs8 L 294 k f c v u r).ob = L.o (leafS k f c v u) ++ (L.lk (leafS k f c v u) ++ []) := by kernel_rfl
theorem vrs_3:resultS Tryz.prog Tryz.f231 (vs8 L 294 k f c v u r) = some (.tup [ivS (L.g (leafS k f c v u)).1,.si .i64 (L.g (leafS k f c v u)).2]) := by kernel_rfl
theorem va7_4:(runOps Tryz.prog EG (run Tryz.prog EG (OVl L 295) 60).1 (opsOf vR6) ((opsOf vR6).toList.drop 4) (vsL L 295 k f c v u r)).isSome = true := by kernel_rfl
theorem va8_4:exO Tryz.prog EG (OVl L 295) 60 vT (vs7 L 295 k f c v u r) .ret := by unfold exO; kernel_rfl
theorem vb7_4:(vs7 L 295 k f c v u r).ob = L.o (leafS k f c v u) ++ (L.lk (leafS k f c v u) ++ []) := by kernel_rfl
theorem vb8_4:(vs8 L 295 k f c v u r).ob = L.o (leafS k f c v u) ++ (L.lk (leafS k f c v u) ++ []) := by kernel_rfl
theorem vrs_4:resultS Tryz.prog Tryz.f231 (vs8 L 295 k f c v u r) = some (.tup [ivS (L.g (leafS k f c v u)).1,.si .i64 (L.g (leafS k f c v u)).2]) := by kernel_rfl
end
theorem vl_of {L:Lfs} {m:FuncId} {k:Int} {g:Lf → I × Int} {o:Lf → Obs} (hL:L = ⟨lfB lkOl,lfG g,lfB o⟩) (hm:PlainOk Tryz.prog m (kLf (lfG g) (lfB o))):OracleOk Tryz.prog (OVl L m) := by
 subst hL
 exact .cons lookK.of (.cons hm.of (.nil _))
def vaOf:List SV → Option Lf
 | [.agg [.i .u8 k, .fl a0, .fl a1, .fl a2, .fl a3, .fl a4, .fl a5, .fl a6, .fl a7, .fl a8, .fl a9, .fl a10, .fl a11, .fl a12, .fl a13, .fl a14, .fl a15, .i .i64 0, .i .i64 0], ch, .agg [.fl p0, .fl p1, .fl p2, .fl p3, .fl p4, .fl p5], .agg [.fl r0, .fl r1, .fl r2, .fl r3, .fl r4, .fl r5]] => match intS ch with
   | some (.i64,c) => some ⟨k,ndF a0 a1 a2 a3 a4 a5 a6 a7 a8 a9 a10 a11 a12 a13 a14 a15,c,⟨⟨p0,p1⟩,⟨p2,p3⟩,⟨p4,p5⟩⟩,⟨⟨r0,r1⟩,⟨r2,r3⟩,⟨r4,r5⟩⟩⟩
   | _ => none
 | _ => none
theorem vaOf_plain {l:List SV} {x:Lf} (h:vaOf l = some x):etaF x.f = x.f ∧ ∃ vs,plains l = some vs ∧ plains (vArgs x.k x.f x.c x.v x.u) = some vs := by
 unfold vaOf at h
 split at h
 ·split at h
  ·rename_i c hc
   simp only [Option.some.injEq] at h
   subst h
   have hp := intS_plain hc
   refine ⟨rfl,_,?_,rfl⟩
   simp only [plains,plain,hp,Option.bind_some,Option.map_some]
   rfl
  ·cases h
 ·cases h
def vlG (G:Gm) (K:Kk) (l:Lf):I × Int := match l.k with
 | 1 => meL G l.f l.c.toNat
 | 2 => meO K G l.f l.c.toNat l.v l.u
 | 3 => meP K G l.f l.v l.u
 | 4 => meM K G l.f l.c.toNat l.v l.u
 | _ => (I.zero,0)
def vlO (l:Lf):Obs := lkOl l ++ match l.k with
 | 1 => olL l
 | 2 => olO l
 | 3 => olP l
 | 4 => olM l
 | _ => [(false,true)]
def kVal (g:Lf → I × Int) (o:Lf → Obs) (args:List SV) (ds:Dec):Option (SV × Dec × Obs) := match vaOf args with
 | some l => some (.tup [.agg [.fl (g l).1.lo,.fl (g l).1.hi],.si .i64 (g l).2],ds,o l)
 | none => none
theorem valK:PlainOk Tryz.prog 231 (kVal (vlG GmR KkR) vlO) := by
 intro args ds x ds' ob h ho
 unfold kVal at h
 split at h
 ·rename_i l e
  simp only [Option.some.injEq,Prod.mk.injEq] at h
  obtain ⟨rfl,_,rfl⟩ := h
  obtain ⟨hf,vs,h1,h2⟩ := vaOf_plain e
  obtain ⟨k,f,c,v,u⟩ := l
  simp only at hf h2
  refine ⟨vs,_,h1,rfl,fun w => ?_⟩
  have hlk:ObsOk (lfB lkOl (leafS k f c v u)) := by unfold lfB; rw [lfOf_S,hf]; exact ob_l ho
  have go:∀ {m:FuncId} {g:Lf → I × Int} {o:Lf → Obs} (hm:PlainOk Tryz.prog m (kLf (lfG g) (lfB o))) (hwf:(Lit.int .u8 k).wf = true)
    (hat:(tabD 292 293 294 295).atKey (.int .u8 k) (.lit (.bool false)) = .lit (.int .i64 (m:Int)))
    (a7:∀ (L:Lfs) r,(runOps Tryz.prog EG (run Tryz.prog EG (OVl L m) 60).1 (opsOf vR6) ((opsOf vR6).toList.drop 4) (vsL L m k f c v u r)).isSome = true)
    (a8:∀ (L:Lfs) r,exO Tryz.prog EG (OVl L m) 60 vT (vs7 L m k f c v u r) .ret)
    (b7:∀ (L:Lfs) r,(vs7 L m k f c v u r).ob = L.o (leafS k f c v u) ++ (L.lk (leafS k f c v u) ++ []))
    (b8:∀ (L:Lfs) r,(vs8 L m k f c v u r).ob = L.o (leafS k f c v u) ++ (L.lk (leafS k f c v u) ++ []))
    (rs:∀ (L:Lfs) r,resultS Tryz.prog Tryz.f231 (vs8 L m k f c v u r) = some (.tup [ivS (L.g (leafS k f c v u)).1,.si .i64 (L.g (leafS k f c v u)).2]))
    (hob:ObsOk (o ⟨k,f,c,v,u⟩)) (he:vlG GmR KkR ⟨k,f,c,v,u⟩ = g ⟨k,f,c,v,u⟩),
    Calls Tryz.prog 231 vs.toArray w fun e w' => e = .returned (.tuple #[.agg #[.float .f64 (vlG GmR KkR ⟨k,f,c,v,u⟩).1.lo.b,.float .f64 (vlG GmR KkR ⟨k,f,c,v,u⟩).1.hi.b],.int .i64 (vlG GmR KkR ⟨k,f,c,v,u⟩).2]) ∧ Below w.heap.size w w' := by
   intro m g o hm hwf hat a7 a8 b7 b8 rs hob he
   have q := value_of (L := ⟨lfB lkOl,lfG g,lfB o⟩) (g := m) (k := k) f c v u (vl_of (k := k) rfl hm) hwf hat (a7 _) (a8 _) (b7 _) (b8 _) (rs _) hlk (by show ObsOk (lfB o (leafS k f c v u)); unfold lfB; rw [lfOf_S,hf]; exact hob) h2 w
   have eg:lfG g (leafS k f c v u) = g ⟨k,f,c,v,u⟩ := by unfold lfG; rw [lfOf_S,hf]
   rw [he,← eg]
   exact q
  have ho2 := ob_r ho
  split at ho2
  ·rename_i q; simp only at q; subst q
   exact go lambK rfl (tab_at _ _ _ _).1 (fun L r => va7_1 L 1 f c v u r) (fun L r => va8_1 L 1 f c v u r) (fun L r => vb7_1 L 1 f c v u r) (fun L r => vb8_1 L 1 f c v u r) (fun L r => vrs_1 L 1 f c v u r) ho2 rfl
  ·rename_i q; simp only at q; subst q
   exact go orenK rfl (tab_at _ _ _ _).2.1 (fun L r => va7_2 L 2 f c v u r) (fun L r => va8_2 L 2 f c v u r) (fun L r => vb7_2 L 2 f c v u r) (fun L r => vb8_2 L 2 f c v u r) (fun L r => vrs_2 L 2 f c v u r) ho2 rfl
  ·rename_i q; simp only at q; subst q
   exact go plasK rfl (tab_at _ _ _ _).2.2.1 (fun L r => va7_3 L 3 f c v u r) (fun L r => va8_3 L 3 f c v u r) (fun L r => vb7_3 L 3 f c v u r) (fun L r => vb8_3 L 3 f c v u r) (fun L r => vrs_3 L 3 f c v u r) ho2 rfl
  ·rename_i q; simp only at q; subst q
   exact go metaK rfl (tab_at _ _ _ _).2.2.2 (fun L r => va7_4 L 4 f c v u r) (fun L r => va8_4 L 4 f c v u r) (fun L r => vb7_4 L 4 f c v u r) (fun L r => vb8_4 L 4 f c v u r) (fun L r => vrs_4 L 4 f c v u r) ho2 rfl
  ·exact absurd (ob_h ho2) (by simp)
 ·cases h
noncomputable def ODy (lk:SV → Obs) (G:Gm):OracleF := lookO [(232,plainO (kLk lk)),(297,plainO (kI1 G.lb u01O)),(234,plainO (kGl G.gl))]
theorem deRun1 (lk:SV → Obs) (G:Gm) (f:Nat → F) (v u:V3):valR ((run Tryz.prog EG (ODy lk G) 80).1 153 [nodeS 1 f,v.sv,u.sv] [] (some [])) = some (.tup [ivS (G.lb v.z).1,.si .i64 (G.lb v.z).2],some [],u01O v.z ++ (lk (leafI 1 f 0 v u) ++ [])) := by kernel_rfl
theorem deRun2 (lk:SV → Obs) (G:Gm) (f:Nat → F) (v u:V3):valR ((run Tryz.prog EG (ODy lk G) 80).1 153 [nodeS 2 f,v.sv,u.sv] [] (some [])) = some (.tup [ivS (G.lb v.z).1,.si .i64 (G.lb v.z).2],some [],u01O v.z ++ (lk (leafI 2 f 0 v u) ++ [])) := by kernel_rfl
theorem deRun3 (lk:SV → Obs) (G:Gm) (f:Nat → F) (v u:V3):valR ((run Tryz.prog EG (ODy lk G) 80).1 153 [nodeS 3 f,v.sv,u.sv] [] (some [])) = some (.tup [ivS (G.gl v u (pF (f 13))).1.d,.si .i64 (G.gl v u (pF (f 13))).2],some [],glO v u (pF (f 13)) ++ (lk (leafI 3 f 0 v u) ++ [])) := by kernel_rfl
theorem deRun4 (lk:SV → Obs) (G:Gm) (f:Nat → F) (v u:V3):valR ((run Tryz.prog EG (ODy lk G) 80).1 153 [nodeS 4 f,v.sv,u.sv] [] (some [])) = some (.tup [ivS (G.gl v u (pF (f 13))).1.d,.si .i64 (G.gl v u (pF (f 13))).2],some [],glO v u (pF (f 13)) ++ (lk (leafI 4 f 0 v u) ++ [])) := by kernel_rfl
def deOf:List SV → Option Lf
 | [.agg [.i .u8 k,.fl a0,.fl a1,.fl a2,.fl a3,.fl a4,.fl a5,.fl a6,.fl a7,.fl a8,.fl a9,.fl a10,.fl a11,.fl a12,.fl a13,.fl a14,.fl a15,.i .i64 0,.i .i64 0],.agg [.fl p0,.fl p1,.fl p2,.fl p3,.fl p4,.fl p5],.agg [.fl r0,.fl r1,.fl r2,.fl r3,.fl r4,.fl r5]] => some ⟨k,ndF a0 a1 a2 a3 a4 a5 a6 a7 a8 a9 a10 a11 a12 a13 a14 a15,0,⟨⟨p0,p1⟩,⟨p2,p3⟩,⟨p4,p5⟩⟩,⟨⟨r0,r1⟩,⟨r2,r3⟩,⟨r4,r5⟩⟩⟩
 | _ => none
def dArgs (k:Int) (f:Nat → F) (v u:V3):List SV := [nodeS k f,v.sv,u.sv]
theorem deOf_plain {l:List SV} {x:Lf} (h:deOf l = some x):etaF x.f = x.f ∧ x.c = 0 ∧ ∃ vs,plains l = some vs ∧ plains (dArgs x.k x.f x.v x.u) = some vs := by
 unfold deOf at h
 split at h
 ·simp only [Option.some.injEq] at h
  subst h
  exact ⟨rfl,rfl,_,rfl,rfl⟩
 ·cases h
def dnG4 (G:Gm) (l:Lf):I × Int := match l.k with
 | 1 => G.lb l.v.z
 | 2 => G.lb l.v.z
 | 3 => ((G.gl l.v l.u (pF (l.f 13))).1.d,(G.gl l.v l.u (pF (l.f 13))).2)
 | 4 => ((G.gl l.v l.u (pF (l.f 13))).1.d,(G.gl l.v l.u (pF (l.f 13))).2)
 | _ => (I.zero,0)
def dnO4 (l:Lf):Obs := lkOl l ++ match l.k with
 | 1 => u01O l.v.z
 | 2 => u01O l.v.z
 | 3 => glO l.v l.u (pF (l.f 13))
 | 4 => glO l.v l.u (pF (l.f 13))
 | _ => [(false,true)]
def kDe (g:Lf → I × Int) (o:Lf → Obs) (args:List SV) (ds:Dec):Option (SV × Dec × Obs) := match deOf args with
 | some l => some (.tup [.agg [.fl (g l).1.lo,.fl (g l).1.hi],.si .i64 (g l).2],ds,o l)
 | none => none
theorem oracleDy:OracleOk Tryz.prog (ODy (lfB lkOl) GmR) := .cons lookK.of (.cons lbG.of (.cons glG.of (.nil _)))
theorem denK:PlainOk Tryz.prog 153 (kDe (dnG4 GmR) dnO4) := by
 intro args ds x ds' ob h ho
 unfold kDe at h
 split at h
 ·rename_i l e
  simp only [Option.some.injEq,Prod.mk.injEq] at h
  obtain ⟨rfl,_,rfl⟩ := h
  obtain ⟨hf,hc,vs,h1,h2⟩ := deOf_plain e
  obtain ⟨k,f,c,v,u⟩ := l
  simp only at hf hc h2
  subst hc
  refine ⟨vs,_,h1,(plIt _ _).1,fun w => ?_⟩
  have hlk:ObsOk (lfB lkOl (leafI k f 0 v u) ++ []) := by
   have e:lfOf (leafI k f 0 v u) = some ⟨k,etaF f,0,v,u⟩ := rfl
   unfold lfB; rw [e,hf]; exact ob_a (ob_l ho) ob_n
  have ho2 := ob_r ho
  split at ho2
  ·rename_i q; simp only at q; subst q
   exact calls_of_val goodG oracleDy 80 (deRun1 _ _ f v u) (ob_a ho2 hlk) h2 (plIt _ _).1 w
  ·rename_i q; simp only at q; subst q
   exact calls_of_val goodG oracleDy 80 (deRun2 _ _ f v u) (ob_a ho2 hlk) h2 (plIt _ _).1 w
  ·rename_i q; simp only at q; subst q
   exact calls_of_val goodG oracleDy 80 (deRun3 _ _ f v u) (ob_a ho2 hlk) h2 (plIt _ _).1 w
  ·rename_i q; simp only at q; subst q
   exact calls_of_val goodG oracleDy 80 (deRun4 _ _ f v u) (ob_a ho2 hlk) h2 (plIt _ _).1 w
  ·exact absurd (ob_h ho2) (by simp)
 ·cases h
end Go.Proofs.YtejcekikbnlllaaGreat
namespace Bu
open Rx Go
structure U8 where
 a0:Int
 a1:Int
 a2:Int
 a3:Int
 a4:Int
 a5:Int
 a6:Int
 a7:Int
structure U6 where
 a0:Int
 a1:Int
 a2:Int
 a3:Int
 a4:Int
 a5:Int
def U8.sv (u:U8):SV := .agg [.si .u32 u.a0,.si .u32 u.a1,.si .u32 u.a2,.si .u32 u.a3,.si .u32 u.a4,.si .u32 u.a5,.si .u32 u.a6,.si .u32 u.a7]
def U6.sv (u:U6):SV := .agg [.si .u32 u.a0,.si .u32 u.a1,.si .u32 u.a2,.si .u32 u.a3,.si .u32 u.a4,.si .u32 u.a5]
def U8.ok (u:U8):Bool := wN32 u.a0 && (wN32 u.a1 && (wN32 u.a2 && (wN32 u.a3 && (wN32 u.a4 && (wN32 u.a5 && (wN32 u.a6 && wN32 u.a7))))))
def U6.ok (u:U6):Bool := wN32 u.a0 && (wN32 u.a1 && (wN32 u.a2 && (wN32 u.a3 && (wN32 u.a4 && wN32 u.a5))))
abbrev Bw := F → F → Int → F
def ndL (a0 a1 a2 a3 a4 a5 a6 a7 a8 a9 a10 a11 a12 a13 a14 a15:F) (i:Nat):F := [a0,a1,a2,a3,a4,a5,a6,a7,a8,a9,a10,a11,a12,a13,a14,a15].getD i z64
def leF1 (b:Bw) (u:U8):Nat → F := ndL (b z64 one64 u.a1) (b z64 one64 u.a2) (b z64 one64 u.a3) z64 z64 z64 z64 z64 z64 z64 z64 z64 z64 z64 z64 z64
def leF2 (b:Bw) (u:U8):Nat → F := ndL (b z64 one64 u.a1) (b z64 one64 u.a2) (b z64 one64 u.a3) z64 z64 z64 z64 z64 z64 z64 z64 z64 (b z64 one64 u.a4) z64 z64 z64
def leF3 (b:Bw) (u:U8):Nat → F := ndL z64 z64 z64 z64 z64 z64 z64 z64 z64 z64 z64 z64 z64 (b minA one64 u.a1) (b minIo four64 u.a2) z64
def leF4 (b:Bw) (u:U8):Nat → F := ndL z64 z64 z64 z64 z64 z64 (b minMt maxMt u.a2) (b minMt maxMt u.a3) (b minMt maxMt u.a4) (b minMt maxMt u.a5) (b minMt maxMt u.a6) (b minMt maxMt u.a7) z64 (b minA one64 u.a1) z64 z64
def leK (u:U8):Int := bif decide (u.a0.tmod 4 = 0) then 1 else bif decide (u.a0.tmod 4 = 1) then 2 else bif decide (u.a0.tmod 4 = 2) then 3 else 4
def leF (b:Bw) (u:U8):Nat → F := bif decide (u.a0.tmod 4 = 0) then leF1 b u else bif decide (u.a0.tmod 4 = 1) then leF2 b u else bif decide (u.a0.tmod 4 = 2) then leF3 b u else leF4 b u
theorem rk_p:pairB z64 one64 = true ∧ pairB minA one64 = true ∧ pairB minIo four64 = true ∧ pairB minMt maxMt = true ∧ pairB mone64 one64 = true ∧ pairB d64 one64 = true := by decide +kernel
def nodeZ (k:Int) (f:Nat → F):SV := .agg [.si .u8 k,.fl (f 0),.fl (f 1),.fl (f 2),.fl (f 3),.fl (f 4),.fl (f 5),.fl (f 6),.fl (f 7),.fl (f 8),.fl (f 9),.fl (f 10),.fl (f 11),.fl (f 12),.fl (f 13),.fl (f 14),.fl (f 15),.i .i64 0,.i .i64 0]
def kLe (k:U8 → Int) (f:U8 → Nat → F) (o:U8 → Bool):List SV → Dec → Option (SV × Dec × Obs)
 | [.agg [.si .u32 a0,.si .u32 a1,.si .u32 a2,.si .u32 a3,.si .u32 a4,.si .u32 a5,.si .u32 a6,.si .u32 a7]],ds => some (nodeZ (k ⟨a0,a1,a2,a3,a4,a5,a6,a7⟩) (f ⟨a0,a1,a2,a3,a4,a5,a6,a7⟩),ds,[(o ⟨a0,a1,a2,a3,a4,a5,a6,a7⟩,true)])
 | _,_ => none
def twV (un:F → F → F → V3) (b:Bw) (x y z:Int):V3 := un (b mone64 one64 x) (b mone64 one64 y) (b d64 one64 z)
theorem e64_q:d64.q = 1 / 64 := by have:d64.q * 64 = 1 := q_of' (n := 1) (s := 6) (by decide +kernel) rfl; grind
theorem bwN1 {n:Int}:N1 (bwF mone64 one64 n) := by
 have h := bwF_in (a := mone64) (b := one64) (n := n) (q_le.1 (by rw [mone_q,one_q]; grind))
 have a := q_le.2 h.1; have b := q_le.2 h.2
 rw [mone_q] at a; rw [one_q] at b
 exact ⟨a,b⟩
theorem bwN2 {n:Int}:1 / 64 ≤ (bwF d64 one64 n).q ∧ (bwF d64 one64 n).q ≤ 1 := by
 have h := bwF_in (a := d64) (b := one64) (n := n) (q_le.1 (by rw [e64_q,one_q]; grind))
 have a := q_le.2 h.1; have b := q_le.2 h.2
 rw [e64_q] at a; rw [one_q] at b
 exact ⟨a,b⟩
theorem twP (x y z:Int):OneP (twV (unV KkR) bwF x y z) := un_ok bwN1 bwN1 bwN2.1 bwN2.2
def kFq (f:Int → F) (u:Int → Bool):List SV → Dec → Option (SV × Dec × Obs)
 | [x], ds => match intS x with
   | some (.u32,n) => some (.fl (f n),ds,[(u n,true)])
   | _ => none
 | _,_ => none
end Bu
namespace Go.Proofs.YtejcekikbnlllaaGreat
open Go.RowKit Bu Rx
def nodeV (k:Int) (f:Nat → F):Value := .agg #[.int .u8 k,.float .f64 (f 0).b,.float .f64 (f 1).b,.float .f64 (f 2).b,.float .f64 (f 3).b,.float .f64 (f 4).b,.float .f64 (f 5).b,.float .f64 (f 6).b,.float .f64 (f 7).b,.float .f64 (f 8).b,.float .f64 (f 9).b,.float .f64 (f 10).b,.float .f64 (f 11).b,.float .f64 (f 12).b,.float .f64 (f 13).b,.float .f64 (f 14).b,.float .f64 (f 15).b,.int .i64 0,.int .i64 0]
theorem nd_pl (k:Int) (f:Nat → F):plain (nodeS k f) = some (nodeV k f) ∧ plain (nodeZ k f) = some (nodeV k f) := ⟨rfl,rfl⟩
theorem frqRun (n:Int):valR ((run Tryz.prog EG OIM 80).1 23 [.si .u32 n] [] (some [])) = some (.fl (frT n),some [],so (fdv (toF (FloatKind.f64.nearest n)) cN32) ++ [(rightB (FloatKind.f64.nearest n),true)]) := by kernel_rfl
theorem frqG:PlainOk Tryz.prog 23 (kFq frT wN32) := by
 intro args ds x ds' ob h ho
 unfold kFq at h
 split at h
 ·rename_i u
  split at h
  ·rename_i n hk
   simp only [Option.some.injEq,Prod.mk.injEq] at h; obtain ⟨rfl,_,rfl⟩ := h
   obtain ⟨t,e,_,_,hr⟩ := frT_ok (ob_h ho)
   exact ⟨[.int .u32 n],_,plains_cons (intS_plain hk) plains_nil,rfl,fun w => calls_of_val goodG oracleIM 80 (frqRun n) (ob_a (ObsOk.of_B (so_ok e).1) (ob_c hr ob_n)) rfl rfl w⟩
  ·cases h
 ·cases h
end Go.Proofs.YtejcekikbnlllaaGreat
namespace Bu
open Rx Go
theorem bw_sq {n:Int} (h:wN32 n = true):1 ≤ ((2 ^ 80:Nat):Rat) * ((bwF mone64 one64 n).q * (bwF mone64 one64 n).q) := by
 obtain ⟨_,_,k1,k2⟩ := kq
 have e:((2 ^ 80:Nat):Rat) = 1208925819614629174706176 := by decide +kernel
 rw [e]
 have key:1 / 295147905179352825856 ≤ (bwF mone64 one64 n).q * (bwF mone64 one64 n).q := by
  rcases bw_far h with g | g
  ·have a := q_le.2 g
   generalize (bwF mone64 one64 n).q = x at *
   have b:x ≤ -(1 / 17179869184) := by grind
   have := Rat.mul_nonneg (show 0 ≤ -(1 / 17179869184) - x by grind) (show 0 ≤ -(1 / 17179869184) - x by grind)
   grind
  ·have a := q_le.2 g
   generalize (bwF mone64 one64 n).q = x at *
   have b:1 / 17179869184 ≤ x := by grind
   have := Rat.mul_nonneg (show 0 ≤ x - 1 / 17179869184 by grind) (show 0 ≤ x - 1 / 17179869184 by grind)
   grind
 generalize (bwF mone64 one64 n).q * (bwF mone64 one64 n).q = s at *
 grind
theorem bw_nar {a b c:Int} (ha:wN32 a = true) (hb:wN32 b = true):(unV KkR (bwF mone64 one64 a) (bwF mone64 one64 b) (bwF d64 one64 c)).z.hi.q ≤ (unV KkR (bwF mone64 one64 a) (bwF mone64 one64 b) (bwF d64 one64 c)).z.lo.q + (unV KkR (bwF mone64 one64 a) (bwF mone64 one64 b) (bwF d64 one64 c)).z.lo.q * (64 * rl) := un_nar bwN1 bwN1 bwN2.1 bwN2.2 (bw_sq ha) (bw_sq hb)
end Bu
namespace Rx
open Go Go.RowKit
def Nms.cut (m:Nms) (k:Nat):Nms := ⟨fun n => if n < k then m n else none,m.c⟩
theorem cut_some {m:Nms} {k n r:Nat} (h:n < k) (hr:m n = some r):m.cut k n = some r := by
 show (if n < k then m n else none) = _
 rw [if_pos h]; exact hr
theorem cut_inv {m:Nms} {k n r:Nat} (h:m.cut k n = some r):n < k ∧ m n = some r := by
 have h':(if n < k then m n else none) = some r := h
 by_cases hk:n < k
 ·rw [if_pos hk] at h'; exact ⟨hk,h'⟩
 ·rw [if_neg hk] at h'; cases h'
mutual
theorem den_cut {m:Nms} {k:Nat}:∀ {x:SV} {v:Value},idsLt k x = true → den m x = some v → den (m.cut k) x = some v
 | .b _,v,_,h => by simpa [den] using h
 | .i _ _,v,_,h => by simpa [den] using h
 | .si _ _,v,_,h => by simpa [den] using h
 | .f _,v,_,h => by simpa [den] using h
 | .fl _,v,_,h => by simpa [den] using h
 | .np,v,_,h => by simpa [den] using h
 | .o _,v,_,h => by simpa [den] using h
 | .p n off, v, hk, h => by
   simp only [den,Option.map_eq_some_iff] at h ⊢
   obtain ⟨r,hr,e⟩ := h
   exact ⟨r,cut_some (Nat.blt_eq.mp hk) hr,e⟩
 | .sp n off, v, hk, h => by
   simp only [den,Option.map_eq_some_iff] at h ⊢
   obtain ⟨r,hr,e⟩ := h
   exact ⟨r,cut_some (Nat.blt_eq.mp hk) hr,e⟩
 | .sl n off len cap, v, hk, h => by
   simp only [den,Option.map_eq_some_iff] at h ⊢
   obtain ⟨r,hr,e⟩ := h
   exact ⟨r,cut_some (Nat.blt_eq.mp hk) hr,e⟩
 | .ssl n off len cap, v, hk, h => by
   simp only [den,Option.map_eq_some_iff] at h ⊢
   obtain ⟨r,hr,e⟩ := h
   exact ⟨r,cut_some (Nat.blt_eq.mp hk) hr,e⟩
 | .osl y n len, v, hk, h => by
   simp only [den,Option.bind_eq_some_iff] at h ⊢
   obtain ⟨r,hr,e⟩ := h
   exact ⟨r,cut_some (Nat.blt_eq.mp hk) hr,e⟩
 | .fn f first cap, v, hk, h => by
   simp only [idsLt,Bool.and_eq_true] at hk
   simp only [den,Option.bind_eq_some_iff,Option.map_eq_some_iff] at h ⊢
   obtain ⟨x,hx,y,hy,e⟩ := h
   exact ⟨x,dens_cut hk.1 hx,y,dens_cut hk.2 hy,e⟩
 | .agg l, v, hk, h => by
   simp only [idsLt] at hk
   simp only [den,Option.map_eq_some_iff] at h ⊢
   obtain ⟨x,hx,e⟩ := h; exact ⟨x,dens_cut hk hx,e⟩
 | .tup l, v, hk, h => by
   simp only [idsLt] at hk
   simp only [den,Option.map_eq_some_iff] at h ⊢
   obtain ⟨x,hx,e⟩ := h; exact ⟨x,dens_cut hk hx,e⟩
theorem dens_cut {m:Nms} {k:Nat}:∀ {l:List SV} {vs:List Value},idsLts k l = true → dens m l = some vs → dens (m.cut k) l = some vs
 | [],vs,_,h => by simpa [dens] using h
 | x :: l, vs, hk, h => by
   simp only [idsLts,Bool.and_eq_true] at hk
   obtain ⟨v,us,a,b,rfl⟩ := dens_cons_some.1 h
   exact dens_cons (den_cut hk.1 a) (dens_cut hk.2 b)
end
def hol (k:Nat) (v:Nat → Value):Nat → List SV → List SV
 | _,[] => []
 | j, x :: l => (match idsLt k x with
   | true => x
   | false => .o (v j)) :: hol k v (j + 1) l
theorem hol_ok {m:Nms} {k:Nat} {v:Nat → Value}:∀ {T:List SV} {vs:List Value} {j:Nat},dens m T = some vs → (∀ i u,vs[i]? = some u → v (j + i) = u) → dens (m.cut k) (hol k v j T) = some vs
 | [],vs,j,h,_ => by simp [dens] at h; subst h; simp [hol,dens]
 | x :: l, vs, j, h, hv => by
   obtain ⟨u,us,a,b,rfl⟩ := dens_cons_some.1 h
   have ih := hol_ok (k := k) (v := v) (j := j + 1) b (fun i u hu => by rw [show j + 1 + i = j + (i + 1) by omega]; exact hv (i + 1) u (by simpa using hu))
   unfold hol
   refine dens_cons ?_ ih
   cases hx:idsLt k x
   ·have := hv 0 u (by simp)
    rw [Nat.add_zero] at this
    simp only [den,this]
   ·exact den_cut hx a
def St.cut (s:St) (k:Nat) (v:Nat → Value):St := ⟨hol k v 0 s.T,s.M.take k,s.ds,s.ob⟩
theorem live_take {M:List Blk} {k n:Nat} (h:liveM (M.take k) n):liveM M n ∧ n < k := by
 obtain ⟨b,hb,hl⟩ := h
 rw [List.getElem?_take] at hb
 split at hb
 ·rename_i hk; exact ⟨⟨b,hb,hl⟩,hk⟩
 ·cases hb
theorem StAt.cut {m:Nms} {s:St} {a:Act} {w:World} (h:StAt m s a w) {k:Nat} (hB:∀ b ∈ s.M.take k,idsLts k b.cells = true):StAt (m.cut k) (s.cut k (fun j => a.tmps.getD j undef)) a w := by
 refine ⟨hol_ok h.tm (fun i u hu => ?_),h.df,⟨⟨fun n r hr => h.mem.ok.lt n r (cut_inv hr).2⟩,fun n n' r l1 l2 h1 h2 => h.mem.inj n n' r (live_take l1).1 (live_take l2).1 (cut_inv h1).2 (cut_inv h2).2,fun n b hb => ?_,fun n r hr => ?_⟩⟩
 ·rw [Nat.zero_add]
  have hu':a.tmps[i]? = some u := by simpa using hu
  simp [Array.getD_eq_getD_getElem?,hu']
 ·have hb0:(s.M.take k)[n]? = some b := hb
  have hmem := List.mem_of_getElem? hb0
  rw [List.getElem?_take] at hb0
  split at hb0
  ·rename_i hk
   obtain ⟨r,hr,hat⟩ := h.mem.blk n b hb0
   refine ⟨r,cut_some hk hr,fun hl => ?_⟩
   obtain ⟨cv,sp,d,hh,kk⟩ := hat hl
   exact ⟨cv,sp,dens_cut (hB b hmem) d,hh,kOk_ext kk rfl id⟩
  ·cases hb0
 ·obtain ⟨h1,h2⟩ := cut_inv hr
  have := h.mem.dom n r h2
  show n < (s.M.take k).length
  rw [List.length_take]; omega
def RunsP (P:Program) (c:Code) (s:St) (ex:Ex) (Φ:St → Prop):Prop :=
 ∀ m a w (Q:Exit → Act → World → Prop),StAt m s a w → (∀ s' m' a' w',Φ s' → StAt m' s' a' w' → Goes m s.M w m' s'.M w' → Q (exOf ex) a' w') → c.wp P Q a w
def RoundsP (P:Program) (body:Code) (n:Nat) (s:St) (ex:Ex) (Φ:St → Prop):Prop :=
 ∀ m a w (Q:Exit → Act → World → Prop),StAt m s a w → (∀ s' m' a' w',Φ s' → StAt m' s' a' w' → Goes m s.M w m' s'.M w' → Q (exOf ex) a' w') → Code.rounds P body Q n a w
section
variable {P:Program}
theorem RunsP.of {c:Code} {s s':St} {ex:Ex} (h:RunsTo P c s ex s'):RunsP P c s ex (fun t => t = s') :=
 fun m a w Q hs hq => h m a w Q hs fun m' a' w' h1 hg => hq s' m' a' w' rfl h1 hg
theorem RunsP.mono {c:Code} {s:St} {ex:Ex} {Φ Ψ:St → Prop} (h:RunsP P c s ex Φ) (k:∀ t,Φ t → Ψ t):RunsP P c s ex Ψ :=
 fun m a w Q hs hq => h m a w Q hs fun s' m' a' w' h1 => hq s' m' a' w' (k s' h1)
theorem RunsP.seq {c d:Code} {s:St} {ex:Ex} {Φ Ψ:St → Prop} (h:RunsP P c s .normal Φ) (k:∀ t,Φ t → RunsP P d t ex Ψ):RunsP P (.seq c d) s ex Ψ := by
 intro m a w Q hs hq
 refine wp_seq (h m a w _ hs fun s1 m' a' w' h1 hs' hg => ?_)
 exact k s1 h1 m' a' w' Q hs' fun s2 m2 a2 w2 h2 hs2 hg2 => hq s2 m2 a2 w2 h2 hs2 (hg.trans hg2)
theorem RunsP.block {id:Nat} {c:Code} {s:St} {Φ:St → Prop} (h:RunsP P c s (.exit id) Φ):RunsP P (.block id c) s .normal Φ := by
 intro m a w Q hs hq
 refine wp_block (h m a w _ hs fun s1 m' a' w' h1 hs' hg => ?_)
 have := hq s1 m' a' w' h1 hs' hg
 simpa [exOf,Exit.inBlock] using this
theorem RunsP.block_ret {id:Nat} {c:Code} {s:St} {Φ:St → Prop} (h:RunsP P c s .ret Φ):RunsP P (.block id c) s .ret Φ := by
 intro m a w Q hs hq
 refine wp_block (h m a w _ hs fun s1 m' a' w' h1 hs' hg => ?_)
 exact hq s1 m' a' w' h1 hs' hg
theorem RunsP.loop {n:Nat} {c:Code} {s:St} {ex:Ex} {Φ:St → Prop} (h:RoundsP P c n s ex Φ):RunsP P (.loop c) s ex Φ :=
 fun m a w Q hs hq => wp_loop_rounds n (h m a w Q hs hq)
theorem RoundsP.next {n:Nat} {c:Code} {s:St} {ex:Ex} {Φ Ψ:St → Prop} (h:RunsP P c s .normal Φ) (k:∀ t,Φ t → RoundsP P c n t ex Ψ):RoundsP P c (n + 1) s ex Ψ := by
 intro m a w Q hs hq
 rw [rounds_succ]
 refine h m a w _ hs fun s1 m' a' w' h1 hs' hg => ?_
 exact k s1 h1 m' a' w' Q hs' fun s2 m2 a2 w2 h2 hs2 hg2 => hq s2 m2 a2 w2 h2 hs2 (hg.trans hg2)
theorem RoundsP.out {n id:Nat} {c:Code} {s:St} {Φ:St → Prop} (h:RunsP P c s (.exit id) Φ):RoundsP P c (n + 1) s (.exit id) Φ := by
 intro m a w Q hs hq
 rw [rounds_succ]
 exact h m a w _ hs fun s1 m' a' w' h1 hs' hg => hq s1 m' a' w' h1 hs' hg
theorem RunsP.cut {c:Code} {s:St} {ex:Ex} {Φ:St → Prop} {k:Nat} (h:RunsP P c s ex Φ) (hk:s.M.length ≤ k) (hB:∀ t,Φ t → ∀ b ∈ t.M.take k,idsLts k b.cells = true):RunsP P c s ex (fun t => ∃ t' v,Φ t' ∧ t = t'.cut k v) := by
 intro m a w Q hs hq
 refine h m a w Q hs fun t m' a' w' h1 hst hg => hq _ (m'.cut k) a' w' ⟨t,_,h1,rfl⟩ (hst.cut (hB t h1)) ?_
 refine ⟨⟨fun n r hr => cut_some (by have := hs.mem.dom n r hr; omega) (hg.ext.n n r hr),hg.ext.c⟩,hg.fr,fun n r hr => hg.new n r (cut_inv hr).2,fun n r hr hl => hg.dd n r hr (live_take hl).1⟩
theorem RunsP.retell {c:Code} {s t:St} {ex:Ex} {Φ:St → Prop} (h:SameSt s t) (k:RunsP P c s ex Φ):RunsP P c t ex Φ :=
 fun m a w Q hs hq => k m a w Q (h.at hs) fun s' m' a' w' h1 h2 hg => hq s' m' a' w' h1 h2 (by unfold Goes at hg ⊢; rw [← h.live]; exact hg)
theorem RunsP.fin {c:Code} {s:St} {ex:Ex} {Φ Ψ:St → Prop} (k:RunsP P c s ex Φ) (h:∀ t,Φ t → ∃ u,Ψ u ∧ SameSt u t):RunsP P c s ex Ψ :=
 fun m a w Q hs hq => k m a w Q hs fun t m' a' w' h1 h2 hg => by
  obtain ⟨u,hu,hs⟩ := h t h1
  exact hq u m' a' w' hu (hs.at h2) (by unfold Goes at hg ⊢; rw [hs.live]; exact hg)
theorem RoundsP.retell {n:Nat} {c:Code} {s t:St} {ex:Ex} {Φ:St → Prop} (h:SameSt s t) (k:RoundsP P c n s ex Φ):RoundsP P c n t ex Φ :=
 fun m a w Q hs hq => k m a w Q (h.at hs) fun s' m' a' w' h1 h2 hg => hq s' m' a' w' h1 h2 (by unfold Goes at hg ⊢; rw [← h.live]; exact hg)
theorem RunsP.call {g:FuncId} {fn:Func} {c:Code} {args:List SV} {M:List Blk} {d:Dec} {Φ:St → Prop} {x:St → SV} (hg:P.funcs[g]? = some fn) (hb:fn.body = some c)
  (h:RunsP P c ⟨args ++ List.replicate (fn.ntmps - args.length) (.tup []),M,d,[]⟩ .ret Φ) (hx:∀ t,Φ t → resultS P fn t = some (x t)) {m:Nms} {w:World} {vs:List Value} (hvs:dens m args = some vs) (hM:MemAt m w M) :
  Calls P g vs.toArray w fun e w' => ∃ t m' v,Φ t ∧ e = .returned v ∧ den m' (x t) = some v ∧ MemAt m' w' t.M ∧ Goes m M w m' t.M w' := by
 have hl := dens_length hvs
 refine calls_of_wp hg hb ?_
 have htm:dens m (args ++ List.replicate (fn.ntmps - args.length) (.tup [])) = some (vs.toArray ++ Array.replicate (fn.ntmps - vs.toArray.size) undef).toList := by
  have := dens_append hvs (dens_replicate (undef_den m) (fn.ntmps - args.length))
  rw [this]; simp [hl]
 refine h _ _ w _ ⟨htm,rfl,hM⟩ fun t m' a' w' h1 hst hgo => ?_
 obtain ⟨v,hv,hr⟩ := resultS_ok hst (hx t h1)
 exact ⟨hst.df,v,hr,t,m',v,h1,rfl,hv,hst.mem,hgo⟩
end
def slA:SV → Option (Nat × Nat × Nat)
 | .sl n off len _ => some (n,off,len)
 | .ssl n off len _ => some (n,off,len)
 | .osl _ n len => some (n,0,len)
 | _ => none
theorem slA_ok {x:SV} {n off len:Nat} {m:Nms} {v:Value} (h:slA x = some (n,off,len)) (hx:den m x = some v):∃ r cap,m n = some r ∧ v = .slice (some ⟨r,off,none⟩) len cap := by
 unfold slA at h
 split at h <;> first | cases h; done | skip
 ·simp only [Option.some.injEq,Prod.mk.injEq] at h; obtain ⟨rfl,rfl,rfl⟩ := h
  simp only [den,Option.map_eq_some_iff] at hx
  obtain ⟨r,hr,rfl⟩ := hx
  exact ⟨r,_,hr,rfl⟩
 ·simp only [Option.some.injEq,Prod.mk.injEq] at h; obtain ⟨rfl,rfl,rfl⟩ := h
  simp only [den,Option.map_eq_some_iff] at hx
  obtain ⟨r,hr,rfl⟩ := hx
  exact ⟨r,_,hr,rfl⟩
 ·simp only [Option.some.injEq,Prod.mk.injEq] at h; obtain ⟨rfl,rfl,rfl⟩ := h
  simp only [den,Option.bind_eq_some_iff] at hx
  obtain ⟨r,hr,hx⟩ := hx
  obtain ⟨_,rfl⟩ := oslV_some.1 hx
  exact ⟨r,_,hr,rfl⟩
def RowAt (w:World) (r off:Nat) (vals:List Value):Prop := ∃ (cv:List Value) (e:TypeId),w.heap[r]? = some (.cells cv.toArray e (0,0)) ∧ (cv.drop off).take vals.length = vals
abbrev RdF := List SV → Nat → List SV → Dec → Option (SV × Dec × Obs)
def RdOk (P:Program) (g:FuncId) (F:RdF):Prop :=
 ∀ cs len l ds x ds' ob,F cs len l ds = some (x,ds',ob) → ObsOk ob → ∃ vc vs v,plains cs = some vc ∧ plains l = some vs ∧ plain x = some v ∧
  ∀ (w:World) (r off cap:Nat),RowAt w r off vc → Calls P g (Value.slice (some ⟨r,off,none⟩) len cap :: vs).toArray w fun e w' => e = .returned v ∧ Below w.heap.size w w'
def Blk.rw (b:Blk):Bool := match b.k with
 | .dead => false
 | .ro _ => false
 | _ => true
theorem rw_ok {b:Blk} (h:b.rw = true):b.live = true ∧ b.k.z = (0,0) := by
 unfold Blk.rw at h
 unfold Blk.live
 cases hk:b.k <;> rw [hk] at h <;> first | exact ⟨rfl,rfl⟩ | cases h
def kRd (size:Nat) (F:RdF):OF := fun args M ds =>
 match args,M with
 | s :: l, [b] => match slA s with
   | some (0, off, len) => match b.rw with
     | true => (F ((b.cells.drop off).take (len * size)) len l ds).map fun q => (q.1,[b],q.2.1,q.2.2)
     | false => none
   | _ => none
 | _,_ => none
theorem RdOk.of {P:Program} {g:FuncId} {F:RdF} {size:Nat} (h:RdOk P g F):OfOk P g (kRd size F) := by
 intro args M ds x M' ds' ob hk ho m w vs hvs hM
 unfold kRd at hk
 split at hk
 ·rename_i s l b
  split at hk
  ·rename_i off len hs
   split at hk
   ·rename_i hl
    simp only [Option.map_eq_some_iff,Prod.mk.injEq] at hk
    obtain ⟨⟨y,d,o⟩,hF,rfl,rfl,rfl,rfl⟩ := hk
    obtain ⟨vc,vl,v,h1,h2,h3,h4⟩ := h _ _ _ _ _ _ _ hF ho
    obtain ⟨v0,us,h5,h6,rfl⟩ := dens_cons_some.1 hvs
    obtain ⟨r,cap,hr,rfl⟩ := slA_ok hs h5
    have h7 := dens_plains (m := m) h2
    rw [h6] at h7
    have h8 := Option.some.inj h7
    subst h8
    obtain ⟨r',hr',hat⟩ := hM.blk 0 b rfl
    rw [hr] at hr'
    have h9 := Option.some.inj hr'
    subst h9
    obtain ⟨cv,sp,d1,hh,_⟩ := hat (rw_ok hl).1
    rw [(rw_ok hl).2] at hh
    have h10 := dens_plains (m := m) h1
    rw [dens_take (dens_drop d1 _) _] at h10
    have h11 := Option.some.inj h10
    have hrow:RowAt w r off vc := by
     refine ⟨cv ++ sp,b.elem,hh,?_⟩
     have hlen:vc.length = min (len * size) (cv.length - off) := by rw [← h11]; simp
     rw [List.drop_append,List.take_append,hlen,List.length_drop]
     rw [show min (len * size) (cv.length - off) - (cv.length - off) = 0 by omega,List.take_zero,List.append_nil]
     rw [← h11,List.take_eq_take_iff,List.length_drop]
     omega
    exact Calls.mono (h4 w r off cap hrow) fun e w' ⟨he,hb⟩ => ⟨m,v,he,CallPost.same hM (den_plain h3) hb⟩
   ·cases hk
  ·cases hk
 ·cases hk
def CellsAt (cells:List SV) (off:Nat) (cs:List SV):Prop := ∀ j x,cs[j]? = some x → cells[off + j]? = some x
theorem plains_app:∀ {a b:List SV} {vs us:List Value},plains a = some vs → plains b = some us → plains (a ++ b) = some (vs ++ us)
 | [],b,vs,us,h,k => by simp only [plains,Option.some.injEq] at h; subst h; exact k
 | x :: a, b, vs, us, h, k => by
   simp only [plains,Option.bind_eq_some_iff,Option.map_eq_some_iff] at h
   obtain ⟨v,h1,ws,h2,rfl⟩ := h
   exact plains_cons h1 (plains_app h2 k)
theorem plains_o:∀ (l:List Value),plains (l.map SV.o) = some l
 | [] => rfl
 | x :: l => plains_cons rfl (plains_o l)
theorem plains_len:∀ {l:List SV} {vs:List Value},plains l = some vs → vs.length = l.length := fun h => dens_length (dens_plains (m := Nms.no) h)
theorem rd_cells {w:World} {r off:Nat} {vc:List Value} {cs:List SV} (hc:plains cs = some vc) (hw:RowAt w r off vc) :
  ∃ (m:Nms) (e:TypeId) (cells:List SV),MemAt m w [⟨e,cells,.num⟩] ∧ m 0 = some r ∧ CellsAt cells off cs ∧ idsLts 0 cells = true := by
 obtain ⟨cv,e,hh,ht⟩ := hw
 have hl := plains_len hc
 have hr:r < w.heap.size := (Array.getElem?_eq_some_iff.1 hh).1
 have hcv:cv = cv.take off ++ (vc ++ (cv.drop off).drop vc.length) := by
  conv => lhs; rw [← List.take_append_drop off cv,← List.take_append_drop vc.length (cv.drop off),ht]
 have hp:plains ((cv.take off).map SV.o ++ (cs ++ ((cv.drop off).drop vc.length).map SV.o)) = some cv := by
  have := plains_app (plains_o (cv.take off)) (plains_app hc (plains_o ((cv.drop off).drop vc.length)))
  rw [← hcv] at this; exact this
 refine ⟨⟨fun n => if n = 0 then some r else none,fun _ => 0⟩,e,_,⟨⟨fun n q hq => ?_⟩,fun n n' q _ _ h1 h2 => ?_,fun n b hb => ?_,fun n q hq => ?_⟩,rfl,fun j x hj => ?_,plains_ids hp⟩
 ·have hq':(if n = 0 then some r else none) = some q := hq
  split at hq'
  ·cases hq'; exact hr
  ·cases hq'
 ·have h1':(if n = 0 then some r else none) = some q := h1
  have h2':(if n' = 0 then some r else none) = some q := h2
  by_cases e1:n = 0
  ·by_cases e2:n' = 0
   ·rw [e1,e2]
   ·rw [if_neg e2] at h2'; cases h2'
  ·rw [if_neg e1] at h1'; cases h1'
 ·have hn:n = 0 := by
   rcases Nat.lt_or_ge n 1 with h' | h'
   ·omega
   ·rw [List.getElem?_eq_none (by simpa using h')] at hb; cases hb
  subst hn
  simp only [List.getElem?_cons_zero,Option.some.injEq] at hb
  subst hb
  exact ⟨r,rfl,BlkAt.mk_num (plains_ids hp) (dens_plains hp) hh⟩
 ·have hq':(if n = 0 then some r else none) = some q := hq
  split at hq'
  ·rename_i h0; subst h0; exact Nat.lt_add_one 0
  ·cases hq'
 ·have hjl:j < cs.length := by
   rcases Nat.lt_or_ge j cs.length with h' | h'
   ·exact h'
   ·rw [List.getElem?_eq_none h'] at hj; cases hj
  have hoff:off ≤ cv.length := by
   rcases Nat.le_total off cv.length with h' | h'
   ·exact h'
   ·have:vc = [] := by rw [← ht,List.drop_eq_nil_of_le h']; simp
    rw [this] at hl; simp at hl; omega
  have h1:((cv.take off).map SV.o).length = off := by simp; omega
  rw [List.getElem?_append_right (by omega),h1,show off + j - off = j by omega,List.getElem?_append_left hjl]
  exact hj
theorem Goes.read {m m':Nms} {e:TypeId} {cells:List SV} {rest:List Blk} {w w':World} (hM:MemAt m w [⟨e,cells,.num⟩]) (hg:Goes m [⟨e,cells,.num⟩] w m' (⟨e,cells,.num⟩ :: rest) w') (hM':MemAt m' w' (⟨e,cells,.num⟩ :: rest)):Below w.heap.size w w' := by
 refine ⟨hg.fr.os,hg.fr.tape,hg.fr.output,hg.fr.size,fun k hk => ?_⟩
 by_cases hx:∃ n,m n = some k ∧ liveM [⟨e,cells,.num⟩] n
 ·obtain ⟨n,hn,_⟩ := hx
  have h0:n = 0 := by have := hM.dom n k hn; simpa using this
  subst h0
  obtain ⟨r,hr,hat⟩ := hM.blk 0 _ rfl
  obtain ⟨r',hr',hat'⟩ := hM'.blk 0 _ rfl
  rw [hn] at hr; cases hr
  rw [hg.ext.n 0 k hn] at hr'; cases hr'
  obtain ⟨cv,d,h1⟩ := hat.num
  obtain ⟨cv',d',h2⟩ := hat'.num
  rw [dens_ext hg.ext d] at d'; cases d'
  rw [h1,h2]
 ·exact hg.fr.block k hk hx
theorem rd_of_runs {P:Program} {g:FuncId} {fn:Func} {c:Code} (hg:P.funcs[g]? = some fn) (hb:fn.body = some c) {cs l:List SV} {len:Nat} {vc vs:List Value} {x:SV} {v:Value} (hc:plains cs = some vc) (hl:plains l = some vs) (hx:plain x = some v) {d:Dec}
  (h:∀ (e:TypeId) (cells:List SV) (off cap:Nat),CellsAt cells off cs → idsLts 0 cells = true →
   RunsP P c ⟨(.ssl 0 off len cap :: l) ++ List.replicate (fn.ntmps - (l.length + 1)) (.tup []),[⟨e,cells,.num⟩],d,[]⟩ .ret (fun t => resultS P fn t = some x ∧ ∃ rest,t.M = ⟨e,cells,.num⟩ :: rest))
  (w:World) (r off cap:Nat) (hw:RowAt w r off vc):Calls P g (Value.slice (some ⟨r,off,none⟩) len cap :: vs).toArray w fun e w' => e = .returned v ∧ Below w.heap.size w w' := by
 obtain ⟨m,e,cells,hM,h0,hca,hid⟩ := rd_cells hc hw
 have hd:dens m (.ssl 0 off len cap :: l) = some (Value.slice (some ⟨r,off,none⟩) len cap :: vs) := dens_cons (by simp only [den,h0,Option.map_some]) (dens_plains hl)
 refine Calls.mono (RunsP.call hg hb (args := .ssl 0 off len cap :: l) (x := fun _ => x) (h e cells off cap hca hid) (fun t ht => ht.1) hd hM) fun ex w' ⟨t,m',u,⟨_,rest,hr⟩,he,hv,hM',hgo⟩ => ?_
 rw [den_plain hx] at hv
 have := Option.some.inj hv
 subst this
 rw [hr] at hM' hgo
 exact ⟨he,Goes.read hM hgo hM'⟩
theorem rd_of_run {P:Program} {E:ExtF} {O:OracleF} (hP:Good P E) (hO:OracleOk P O) (n:Nat) {g:FuncId} {cs l:List SV} {len:Nat} {vc vs:List Value} {x:SV} {v:Value} (hc:plains cs = some vc) (hl:plains l = some vs) (hx:plain x = some v)
  (h:∀ (e:TypeId) (cells:List SV) (off cap:Nat),CellsAt cells off cs → ∃ rest ds ds' ob,(run P E O n).1 g (.ssl 0 off len cap :: l) [⟨e,cells,.num⟩] ds = some (x,⟨e,cells,.num⟩ :: rest,ds',ob) ∧ ObsOk ob)
  (w:World) (r off cap:Nat) (hw:RowAt w r off vc):Calls P g (Value.slice (some ⟨r,off,none⟩) len cap :: vs).toArray w fun e w' => e = .returned v ∧ Below w.heap.size w w' := by
 obtain ⟨m,e,cells,hM,h0,hca,hid⟩ := rd_cells hc hw
 have hd:dens m (.ssl 0 off len cap :: l) = some (Value.slice (some ⟨r,off,none⟩) len cap :: vs) := dens_cons (by simp only [den,h0,Option.map_some]) (dens_plains hl)
 obtain ⟨rest,ds,ds',ob,hr,ho⟩ := h e cells off cap hca
 refine Calls.mono ((run_ok hP hO n).1 g _ _ _ _ _ _ _ hr ho m w _ hd hM) fun ex w' ⟨m',u,he,hp⟩ => ?_
 have hv := hp.val
 rw [den_plain hx] at hv
 have := Option.some.inj hv
 subst this
 exact ⟨he,Goes.read hM hp.go hp.mem⟩
def aft (P:Program) (E:ExtF) (O:OracleF) (n:Nat) (c:Code) (s:St):St := match (run P E O n).2 c s with
 | some (_,s') => s'
 | none => s
def Lands (P:Program) (E:ExtF) (O:OracleF) (n:Nat) (c:Code) (s:St) (ex:Ex):Prop := (run P E O n).2 c s = some (ex,aft P E O n c s)
theorem Lands.runs {P:Program} {E:ExtF} {O:OracleF} (hP:Good P E) (hO:OracleOk P O) {n:Nat} {c:Code} {s:St} {ex:Ex} (h:Lands P E O n c s ex) (ho:ObsOk (aft P E O n c s).ob):RunsP P c s ex (fun t => t = aft P E O n c s) := RunsP.of (RunsTo.of hP hO h ho)
theorem Lands.seq {P:Program} {E:ExtF} {O:OracleF} (hP:Good P E) (hO:OracleOk P O) {n:Nat} {c d:Code} {s:St} {ex:Ex} {Ψ:St → Prop} (h:Lands P E O n c s .normal) (ho:ObsOk (aft P E O n c s).ob) (k:RunsP P d (aft P E O n c s) ex Ψ):RunsP P (.seq c d) s ex Ψ :=
 RunsP.seq (h.runs hP hO ho) fun _ ht => ht ▸ k
theorem Lands.fin {P:Program} {E:ExtF} {O:OracleF} (hP:Good P E) (hO:OracleOk P O) {n:Nat} {c:Code} {s:St} {ex:Ex} {Ψ:St → Prop} (h:Lands P E O n c s ex) (ho:ObsOk (aft P E O n c s).ob) (k:∃ u,Ψ u ∧ SameSt u (aft P E O n c s)):RunsP P c s ex Ψ :=
 (h.runs hP hO ho).fin fun _ ht => ht ▸ k
theorem Lands.all {P:Program} {E:ExtF} {O:OracleF} (hP:Good P E) (hO:OracleOk P O) {n:Nat} {c:Code} {s:St} {ex:Ex} {Ψ:St → Prop} (h:Lands P E O n c s ex) (ho:ObsOk (aft P E O n c s).ob) (k:Ψ (aft P E O n c s)):RunsP P c s ex Ψ :=
 (h.runs hP hO ho).mono fun _ ht => ht ▸ k
theorem RunsP.re {P:Program} {c:Code} {T:List SV} {M:List Blk} {d e:Dec} {o p:Obs} {ex:Ex} {Φ:St → Prop} (k:RunsP P c ⟨T,M,d,o⟩ ex Φ):RunsP P c ⟨T,M,e,p⟩ ex Φ := k.retell (SameSt.same T M d e o p)
theorem same_eq {s t:St} (hT:s.T = t.T) (hM:s.M = t.M):SameSt s t := by
 cases s; cases t
 simp only at hT hM
 subst hT; subst hM
 exact SameSt.same _ _ _ _ _ _
theorem same_T {s t:St} (hT:∀ m,dens m s.T = dens m t.T) (hM:s.M = t.M):SameSt s t := by
 cases s; cases t
 simp only at hT hM
 subst hM
 exact ⟨hT,rfl,fun _ b h => ⟨b,h,rfl,rfl,id,fun _ => rfl⟩⟩
theorem loop_rows {P:Program} {body:Code} {id:Nat} {Φ:St → Prop} {α:Type} (S:Nat → α → St) (n:Nat) (hr:∀ i x,i < n → RunsP P body (S i x) .normal (fun t => ∃ x',t = S (i + 1) x')) (he:∀ x,RunsP P body (S n x) (.exit id) Φ) (x:α):RunsP P (.block id (.loop body)) (S 0 x) .normal Φ := by
 refine RunsP.block (RunsP.loop (n := n + 1) ?_)
 have key:∀ j i x,i + j = n → RoundsP P body (j + 1) (S i x) (.exit id) Φ := by
  intro j
  induction j with
  | zero =>
    intro i x h
    rw [Nat.add_zero] at h
    subst h
    exact RoundsP.out (he x)
  | succ j ih =>
    intro i x h
    refine RoundsP.next (hr i x (by omega)) fun t ⟨x',ht⟩ => ?_
    subst ht
    exact ih (i + 1) x' (by omega)
 exact key n 0 x (by omega)
theorem RunsP.round {P:Program} {c:Code} {s s':St} {Φ:St → Prop} {k:Nat} {ex:Ex} (h:RunsP P c s ex (fun t => t = s')) (hk:s.M.length ≤ k) (hB:∀ b ∈ s'.M.take k,idsLts k b.cells = true) (hΦ:∀ v,∃ u,Φ u ∧ SameSt u (s'.cut k v)):RunsP P c s ex Φ :=
 (h.cut hk (fun t ht => by rw [ht]; exact hB)).fin fun t ⟨t',v,h1,h2⟩ => by
  subst h1; subst h2
  exact hΦ v
theorem wrap_s {i:Nat} (h:i < 4611686018427387904):IntKind.i64.wrap ((i:Int) + 1) = ((i + 1:Nat):Int) := by
 rw [IntKind.wrap_i64]; omega
end Rx
