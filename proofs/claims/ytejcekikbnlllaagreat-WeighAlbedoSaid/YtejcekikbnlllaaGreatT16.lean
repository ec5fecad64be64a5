/- burnishlaw24.WeighAlbedo: the run. DensMix, plain. eval.Eval: no errors, boxes, for any .. -/
import Derived.Test.YtejcekikbnlllaaGreatT15
import Derived.Test.YtejcekikbnlllaaGreatT13
import Derived.Test.YtejcekikbnlllaaGreatT10
import Derived.Test.YtejcekikbnlllaaGreatT11
import Derived.Test.YtejcekikbnlllaaGreatT14
import Derived.Test.YtejcekikbnlllaaGreatT07
set_option linter.all false
namespace Go.Proofs.YtejcekikbnlllaaGreat
open Go.RowKit Bu Rx
structure Nwa where
 N:Npr
 T:Nwt
 E:Nev
 D:Nce
 un:F → F → F → V3
 ub:F → F → F → Bool
 mul:Int → I → I → I × Int
 me:I → I → Bool
def OWa (W:Nwa):OracleF := lookO [(23,plainO (kFq W.N.q W.N.w)),(36,plainO (kBw W.N.b W.N.p W.N.w)),(24,wgA_O W.T),(25,kRd 19 (kEe W.E W.un W.ub)),(26,kRd 19 (kDn2 W.D W.un W.ub)),
 (28,kC (aII W.mul)),(29,plainO (oConst (.agg [.fl PIc.lo,.fl PIc.hi]))),(27,plainO (kBII W.me)),(31,plainO (oConst (.b true)))]
def waL (W:Nwa) (t0 t1 t2:Int):List SV := [.i .u8 1,.fl (W.N.q t0),.fl (W.N.q t1),.fl (W.N.q t2),fz,fz,fz,fz,fz,fz,fz,fz,fz,fz,fz,fz,fz,.i .i64 0,.i .i64 0]
def waS (W:Nwa) (t0 t1 t2 i:Int):List SV := [.i .u8 2,.fl (W.N.q t0),.fl (W.N.q t1),.fl (W.N.q t2),fz,fz,fz,fz,fz,fz,fz,fz,fz,.fl (W.N.q i),fz,fz,fz,.i .i64 0,.i .i64 0]
section
variable (W:Nwa) (t0 t1 t2 i:Int) (u:U6)
def waT (W:Nwa) (u:U6) (cs:List SV):WgR := W.T.g cs 1 (W.N.b mone64 one64 u.a0) (W.N.b mone64 one64 u.a1) (W.N.b d64 one64 u.a2) 2 (W.N.b mone64 one64 u.a3).b (W.N.b mone64 one64 u.a4).b (W.N.b d64 one64 u.a5).b
def waTo (W:Nwa) (u:U6) (cs:List SV):Obs := W.T.o cs 1 (W.N.b mone64 one64 u.a0) (W.N.b mone64 one64 u.a1) (W.N.b d64 one64 u.a2) 2 (W.N.b mone64 one64 u.a3).b (W.N.b mone64 one64 u.a4).b (W.N.b d64 one64 u.a5).b
def waU (W:Nwa) (u:U6):V3 := W.un (W.N.b mone64 one64 u.a0) (W.N.b mone64 one64 u.a1) (W.N.b d64 one64 u.a2)
def waV (W:Nwa) (u:U6):V3 := W.un (W.N.b mone64 one64 u.a3) (W.N.b mone64 one64 u.a4) (W.N.b d64 one64 u.a5)
def waE (W:Nwa) (t0 t1 t2 i:Int) (u:U6) (k:Nat):I := (W.E.g (waV W u) (waU W u) (waS W t0 t1 t2 i) 1 k).p
def waM0 (W:Nwa) (t0 t1 t2 i:Int) (u:U6):I × Int := W.mul 0 (waE W t0 t1 t2 i u 0) PIc
def waM1 (W:Nwa) (t0 t1 t2 i:Int) (u:U6):I × Int := W.mul (waM0 W t0 t1 t2 i u).2 (waE W t0 t1 t2 i u 1) PIc
def waM2 (W:Nwa) (t0 t1 t2 i:Int) (u:U6):I × Int := W.mul (waM1 W t0 t1 t2 i u).2 (waE W t0 t1 t2 i u 2) PIc
def waA (W:Nwa) (t0 t1 t2:Int) (u:U6) (k:Nat):I := (waT W u (waL W t0 t1 t2)).w k
def waB (W:Nwa) (t0 t1 t2 i:Int) (u:U6) (k:Nat):I := (waT W u (waS W t0 t1 t2 i)).w k
def waD (a:I):Option Nat := Ieee.double.sub a.hi.b a.lo.b
def waK (me:I → I → Bool) (b m a:I) (r:F):Obs := [(me b m,true),(decide ((toF 4427038433705197568).k < (toF ((waD a).getD 0)).k),false),((waD a).isSome,true),(rightB ((waD a).getD 0),true),(decide (a.hi.k < r.k),false),(decide (r.k < a.lo.k),false)]
def eqC2 (a b:Ch):Bool := (decide (a.p.lo.k = b.p.lo.k) && (decide (a.p.hi.k = b.p.hi.k) && true)) && ((decide (a.m.lo.k = b.m.lo.k) && (decide (a.m.hi.k = b.m.hi.k) && true)) && true)
def waC (W:Nwa) (t0 t1 t2:Int) (u:U6):Ch := W.D.g (waU W u).z (waV W u) (waU W u) (waL W t0 t1 t2) 1
def waOb:Obs :=
 ((waM2 W t0 t1 t2 i u).2 == 0,true) :: (waK W.me (waB W t0 t1 t2 i u 2) (waM2 W t0 t1 t2 i u).1 (waA W t0 t1 t2 u 2) (W.N.q t2) ++ (waK W.me (waB W t0 t1 t2 i u 1) (waM1 W t0 t1 t2 i u).1 (waA W t0 t1 t2 u 1) (W.N.q t1) ++ (waK W.me (waB W t0 t1 t2 i u 0) (waM0 W t0 t1 t2 i u).1 (waA W t0 t1 t2 u 0) (W.N.q t0) ++
 ((!eqC2 (waT W u (waS W t0 t1 t2 i)).x (waC W t0 t1 t2 u),false) :: (!eqC2 (waT W u (waL W t0 t1 t2)).x (waC W t0 t1 t2 u),false) :: (W.D.e (waU W u).z (waV W u) (waU W u) (waL W t0 t1 t2) 1 != 0,false) :: (W.E.e (waV W u) (waU W u) (waS W t0 t1 t2 i) 1 != 0,false) :: ((waT W u (waS W t0 t1 t2 i)).e != 0,false) :: ((waT W u (waL W t0 t1 t2)).e != 0,false) ::
 (deO W.D W.un W.ub (waL W t0 t1 t2) 1 (W.N.b mone64 one64 u.a3) (W.N.b mone64 one64 u.a4) (W.N.b d64 one64 u.a5) (W.N.b mone64 one64 u.a0) (W.N.b mone64 one64 u.a1) (W.N.b d64 one64 u.a2) ++ (eeO W.E W.un W.ub (waS W t0 t1 t2 i) 1 (W.N.b mone64 one64 u.a3) (W.N.b mone64 one64 u.a4) (W.N.b d64 one64 u.a5) (W.N.b mone64 one64 u.a0) (W.N.b mone64 one64 u.a1) (W.N.b d64 one64 u.a2) ++
 (waTo W u (waS W t0 t1 t2 i) ++ (waTo W u (waL W t0 t1 t2) ++ ((W.N.w i,true) :: (W.N.w t2,true) :: (W.N.w t1,true) :: (W.N.w t0,true) :: (dirU W.N u.a3 u.a4 u.a5 ++ (dirU W.N u.a0 u.a1 u.a2 ++ [])))))))))))
def waDs:List Bool := [false,false,false,false,false,false,false,false,false,true,false,false,false,true,false,false,false,true,true]
theorem waRun:valR ((run Tryz.prog EG (OWa W) 120).1 4 [.agg [.si .u32 t0,.si .u32 t1,.si .u32 t2],.si .u32 i,u.sv] [] (some waDs)) = some (.b true,some [],waOb W t0 t1 t2 i u) := by kernel_rfl
end
end Go.Proofs.YtejcekikbnlllaaGreat
namespace Bu
open Rx Go
theorem mul_f {a b r:I} (h:KkR.mul 0 a b = (r,0)):Fact (.mul 0 1) [a,b] r := by
 have st:(stepK KkR (.mul 0 1) [a,b] 0).2 = 0 := by show (KkR.mul 0 a b).2 = 0; rw [h]
 have f := (step_fact st).2.2
 rwa [show (stepK KkR (.mul 0 1) [a,b] 0).1 = r from by show (KkR.mul 0 a b).1 = r; rw [h]] at f
theorem mul_pt {a b r:I} {x y:Rat} (h:KkR.mul 0 a b = (r,0)) (hx:Mem a x) (hy:Mem b y):Mem r (x * y) := p_mul (mul_f h) hx hy
theorem okAt_n {cs:List SV} {i:Nat} {n:Nd} (h1:ckAll cs (i * 19) ndCK = true) (hn:ndR cs (i * 19) = n) (h2:okNd n i = true):okAt cs i = true := okAt_mk h1 (by rw [hn]; exact h2)
end Bu
namespace Go.Proofs.YtejcekikbnlllaaGreat
open Go.RowKit Bu Rx
theorem chF_leaf {cos:I} {lf:Nd → I × Int} {cs:List SV} {i:Nat} {n:Nd} {d:I} (hn:ndR cs (i * 19) = n) (h5:n.k ≠ 5) (h6:n.k ≠ 6) (hd:lf n = (d,0)):chF (allF NdR cos lf cs) i = ⟨d,Ch.zero.m⟩ := by
 show (nodC NdR cos lf _ (ndR cs (i * 19))).1 = _
 rw [hn]
 unfold nodC
 rw [decide_eq_false h5,decide_eq_false h6,cond_false,cond_false,hd]
theorem bw_up (n:Int):decide ((bwF d64 one64 n).k ≤ z64.k) = false := by
 refine decide_eq_false fun h => ?_
 have h1 := (bwN2 (n := n)).1
 have h2 := q_le.2 h
 have h3:z64.q = 0 := zero0_q
 rw [h3] at h2
 grind
theorem dirU_ok {x y z:Int} (hx:wN32 x = true) (hy:wN32 y = true) (hz:wN32 z = true):ObsOk (dirU NprR x y z) := by
 obtain ⟨_,_,_,_,p1,p2⟩ := rk_p
 exact ob_c p2 (ob_c hz (ob_c p1 (ob_c hy (ob_c p1 (ob_c hx ob_n)))))
theorem u6_in {u:U6} (h:u.ok = true):wN32 u.a0 = true ∧ wN32 u.a1 = true ∧ wN32 u.a2 = true ∧ wN32 u.a3 = true ∧ wN32 u.a4 = true ∧ wN32 u.a5 = true := by
 unfold U6.ok at h
 simpa only [Bool.and_eq_true] using h
theorem fr_rn {n:Int} (h:wN32 n = true):rnB z64 one64 (frT n) = true := by
 obtain ⟨t,e1,t0,t1,_⟩ := frT_ok h
 have eT:frT n = t := by
  unfold frT
  rw [e1]
  exact toF_F t
 rw [eT]
 have zk:z64.k = 0 := z64_0
 unfold rnB
 rw [decide_eq_true (show z64.k ≤ t.k by omega),decide_eq_true t1]; rfl
theorem u32_w {n:Int} (h:(Lit.int .u32 n).wf = true):wN32 n = true := by
 have:0 ≤ n ∧ n ≤ 4294967295 := by simpa [Lit.wf,IntKind.min,IntKind.max,IntKind.signed,IntKind.bits] using h
 exact decide_eq_true this
end Go.Proofs.YtejcekikbnlllaaGreat
namespace Bu
open Rx Go
structure OvP (i o:I) (w:F) (a:Ch) (s h x y f q t z r:I):Prop where
 e1:KkR.sub 0 (pt one64) o = (s,0)
 e2:KkR.sub 0 (pt one64) i = (h,0)
 e3:KkR.mul 0 h s = (x,0)
 e4:KkR.mul 0 x (pt w) = (y,0)
 e5:KkR.mul 0 y a.p = (f,0)
 e6:KkR.sqr 0 s = (q,0)
 e7:KkR.mul 0 q (pt w) = (t,0)
 e8:KkR.mul 0 t a.m = (z,0)
 e9:KkR.add 0 o z = (r,0)
theorem OvP.eq {i o:I} {w:F} {a:Ch} {s h x y f q t z r:I} (k:OvP i o w a s h x y f q t z r):overC KkR i o w a = (⟨f,r⟩,0) := by
 unfold overC
 have n1:KkR.num 0 one_ = (pt one64,0) := rfl
 have n2:KkR.num 0 w = (pt w,0) := rfl
 simp only [n1,n2,k.e1,k.e2,k.e3,k.e4,k.e5,k.e6,k.e7,k.e8,k.e9]
end Bu
namespace Go.Proofs.YtejcekikbnlllaaGreat
open Go.RowKit Bu Rx
set_option maxRecDepth 100000 in
theorem bz1_B:byE bz1 bz1 = true ∧ (decide ((KTR.sqr 0 bz1).2 = 0) && inbB (KTR.sqr 0 bz1).1 bz1) = true := by decide +kernel
theorem sqr_in {x:I} (hx:InB x bz1):∃ r,KkR.sqr 0 x = (r,0) ∧ InB r bz1 := by
 have k := bz1_B.2
 rw [Bool.and_eq_true,decide_eq_true_eq] at k
 obtain ⟨r,e,n⟩ := sqr_inn hx.inn k.1
 exact ⟨r,e,inB_tr n.inB k.2⟩
end Go.Proofs.YtejcekikbnlllaaGreat
namespace Bu
open Rx Go
end Bu
namespace Go.Proofs.YtejcekikbnlllaaGreat
open Go.RowKit Bu Rx
end Go.Proofs.YtejcekikbnlllaaGreat
namespace Bu
open Rx Go Ieee
end Bu
namespace Go.Proofs.YtejcekikbnlllaaGreat
open Go.RowKit Bu Rx
end Go.Proofs.YtejcekikbnlllaaGreat
namespace Bu
open Rx Go
end Bu
namespace Go.Proofs.YtejcekikbnlllaaGreat
open Go.RowKit Bu Rx
theorem val3_eq (G:Gm) (K:Kk) (f:Nat → F) (c:Int) (v u:V3):vlG G K ⟨3,f,c,v,u⟩ = meP K G f v u := rfl
theorem val4_eq (G:Gm) (K:Kk) (f:Nat → F) (c:Int) (v u:V3):vlG G K ⟨4,f,c,v,u⟩ = meM K G f c.toNat v u := rfl
theorem gm_gl:GmR.gl = glR KkR GlR := by simp only [GmR]
theorem gm_dl:GmR.dl = fun c n => lnR (fdK KkR c n) 0 := by simp only [GmR]
theorem gm_cd:GmR.cd = fun c m n => lnR (fcK KkR c m n) 0 := by simp only [GmR]
theorem pF_rt (x:F):rt (pF x) = true := decide_eq_true (Int.le_refl _)
theorem val1_eq (G:Gm) (K:Kk) (f:Nat → F) (c:Int) (v u:V3):vlG G K ⟨1,f,c,v,u⟩ = meL G f c.toNat := rfl
theorem val2_eq (G:Gm) (K:Kk) (f:Nat → F) (c:Int) (v u:V3):vlG G K ⟨2,f,c,v,u⟩ = meO K G f c.toNat v u := rfl
theorem gm_lb:GmR.lb = fun r => lnR (lbK KkR r) 0 := by simp only [GmR]
theorem den1_eq (G:Gm) (f:Nat → F) (c:Int) (v u:V3):dnG4 G ⟨1,f,c,v,u⟩ = G.lb v.z := rfl
theorem den2_eq (G:Gm) (f:Nat → F) (c:Int) (v u:V3):dnG4 G ⟨2,f,c,v,u⟩ = G.lb v.z := rfl
theorem den3_eq (G:Gm) (f:Nat → F) (c:Int) (v u:V3):dnG4 G ⟨3,f,c,v,u⟩ = ((G.gl v u (pF (f 13))).1.d,(G.gl v u (pF (f 13))).2) := rfl
theorem den4_eq (G:Gm) (f:Nat → F) (c:Int) (v u:V3):dnG4 G ⟨4,f,c,v,u⟩ = ((G.gl v u (pF (f 13))).1.d,(G.gl v u (pF (f 13))).2) := rfl
end Go.Proofs.YtejcekikbnlllaaGreat
namespace Bu
open Rx Go
end Bu
namespace Go.Proofs.YtejcekikbnlllaaGreat
open Go.RowKit Bu Rx
theorem daE_z {N:Nde} {cos:I} {lf:Nd → I × Int} {cs:List SV}:∀ {j:Nat},(∀ i,i < j → daF N cos lf cs i = 0) → daE N cos lf cs j = 0
 | 0,_ => rfl
 | j + 1, h => by
   have e:daE N cos lf cs (j + 1) = bif decide (daE N cos lf cs j = 0) then daF N cos lf cs j else daE N cos lf cs j := rfl
   rw [e,decide_eq_true (daE_z fun i hi => h i (by omega)),cond_true]
   exact h j (by omega)
theorem evE_z {N:Nde} {v u:V3} {cs:List SV}:∀ {j:Nat},(∀ i,i < j → evF N v u cs i = 0) → evE N v u cs j = 0
 | 0,_ => rfl
 | j + 1, h => by
   have e:evE N v u cs (j + 1) = bif decide (evE N v u cs j = 0) then evF N v u cs j else evE N v u cs j := rfl
   rw [e,decide_eq_true (evE_z fun i hi => h i (by omega)),cond_true]
   exact h j (by omega)
structure RE (r:I × Int):Prop where
 er:Er r.2
 rt:rt r.1 = true
theorem condr:∀ {l:List Bu.Op} {v u:List I},(∀ a ∈ v,rt a = true) → CondE l v → Chain l v u → ∀ a ∈ u,rt a = true
 | [], v, u, hv, _, hc => by
   have e:u = v := hc
   subst e; exact hv
 | o :: l, v, u, hv, hc, hh => by
   obtain ⟨r,hr,hu⟩ := hh
   have h1 := fact_rt hv hc.1 hr
   exact condr (fun a ha => by
    rcases List.mem_cons.1 ha with rfl | ha
    ·exact h1
    ·exact hv a ha) (hc.2 r hr h1) hu
theorem line_re {l:List Bu.Op} {v:List I} (hv:∀ a ∈ v,rt a = true) (hc:CondE l v) (i:Nat):RE (lnR (evalK KkR l v 0) i) := by
 have he := eval_er hv hc
 unfold lnR
 cases g:neB (evalK KkR l v 0).2
 ·exact ⟨.inl rfl,gt_rt (condr hv hc (eval_chain (neB_0 g)).2) i⟩
 ·exact ⟨he,(by decide:rt I.zero = true)⟩
theorem line_rt {l:List Bu.Op} {v:List I} (hv:∀ a ∈ v,rt a = true) (hc:CondE l v) (h:(evalK KkR l v 0).2 = 0) (i:Nat):rt (gt (evalK KkR l v 0).1 i) = true := gt_rt (condr hv hc (eval_chain h).2) i
theorem no_fl {v:List I} (s:List Bool) (h:s.all (fun b => !b) = true):Flags s v := fun i hi => by
 exfalso
 rw [List.getD_eq_getElem?_getD] at hi
 cases k:s[i]? with
 | none => rw [k] at hi; cases hi
 | some b =>
   rw [k] at hi
   have hb:b = true := hi
   subst hb
   have := List.all_eq_true.1 h _ (List.mem_of_getElem? k)
   cases this
theorem rts6 {a b c d e f:I} (h1:rt a = true) (h2:rt b = true) (h3:rt c = true) (h4:rt d = true) (h5:rt e = true) (h6:rt f = true):∀ x ∈ [a,b,c,d,e,f],rt x = true := by
 intro x hx
 simp only [List.mem_cons,List.not_mem_nil,or_false] at hx
 rcases hx with rfl | rfl | rfl | rfl | rfl | rfl <;> assumption
theorem rts5 {a b c d e:I} (h1:rt a = true) (h2:rt b = true) (h3:rt c = true) (h4:rt d = true) (h5:rt e = true):∀ x ∈ [a,b,c,d,e],rt x = true := by
 intro x hx
 simp only [List.mem_cons,List.not_mem_nil,or_false] at hx
 rcases hx with rfl | rfl | rfl | rfl | rfl <;> assumption
theorem rts3 {a b c:I} (h1:rt a = true) (h2:rt b = true) (h3:rt c = true):∀ x ∈ [a,b,c],rt x = true := by
 intro x hx
 simp only [List.mem_cons,List.not_mem_nil,or_false] at hx
 rcases hx with rfl | rfl | rfl <;> assumption
theorem rts2 {a b:I} (h1:rt a = true) (h2:rt b = true):∀ x ∈ [a,b],rt x = true := by
 intro x hx
 simp only [List.mem_cons,List.not_mem_nil,or_false] at hx
 rcases hx with rfl | rfl <;> assumption
theorem rts1 {a:I} (h1:rt a = true):∀ x ∈ [a],rt x = true := by
 intro x hx
 rw [List.mem_singleton] at hx
 subst hx; exact h1
structure Wd (v:V3):Prop where
 x:In1 v.x
 y:In1 v.y
 z:InB v.z bz1
theorem in1_rt {a:I} (h:In1 a):rt a = true := decide_eq_true h.rt
theorem inb_rt1 {a b:I} (h:InB a b):rt a = true := decide_eq_true h.2.2
theorem Wd.six {v u:V3} (hv:Wd v) (hu:Wd u):∀ x ∈ [u.z,u.y,u.x,v.z,v.y,v.x],rt x = true := rts6 (inb_rt1 hu.z) (in1_rt hu.y) (in1_rt hu.x) (inb_rt1 hv.z) (in1_rt hv.y) (in1_rt hv.x)
theorem Wd.dir {v:V3} (h:Wd v):ObsOk (dirO v) :=
 ob_c (decide_eq_true h.z.2.1) (ob_c (decide_eq_true h.z.1) (ob_c (decide_eq_true h.y.hi) (ob_c (decide_eq_true h.y.lo) (ob_c (decide_eq_true h.x.hi) (ob_c (decide_eq_true h.x.lo) (ob_c (inb_rt1 h.z) (ob_c (in1_rt h.y) (ob_c (in1_rt h.x) ob_n))))))))
theorem f6 {v:List I}:Flags [false,false,false,false,false,false] v := no_fl _ rfl
theorem mi_c {v u:V3} (hv:Wd v) (hu:Wd u):CondE miH [u.z,u.y,u.x,v.z,v.y,v.x] := chk_cond (s := [false,false,false,false,false,false]) (by decide +kernel) f6 (hv.six hu)
theorem dt_c {v u:V3} (hv:Wd v) (hu:Wd u):CondE dtP [u.z,u.y,u.x,v.z,v.y,v.x] := chk_cond (s := [false,false,false,false,false,false]) (by decide +kernel) f6 (hv.six hu)
theorem lb_c {a:I} (h:rt a = true):CondE lbV [a] := chk_cond (s := [false]) (by decide +kernel) (no_fl _ rfl) (rts1 h)
theorem gd_c {a b:I} (h:rt a = true) (k:rt b = true):CondE ggD [a,b] := chk_cond (s := [false,false]) (by decide +kernel) (no_fl _ rfl) (rts2 h k)
theorem fc_c {a b c:I} (h:rt a = true) (k:rt b = true) (m:rt c = true):CondE frC [a,b,c] := chk_cond (s := [false,false,false]) (by decide +kernel) (no_fl _ rfl) (rts3 h k m)
theorem mv_c {a b c d e:I} (h1:rt a = true) (h2:rt b = true) (h3:rt c = true) (h4:rt d = true) (h5:rt e = true):CondE miV [a,b,c,d,e] := chk_cond (s := [false,false,false,false,false]) (by decide +kernel) (no_fl _ rfl) (rts5 h1 h2 h3 h4 h5)
theorem less_nn {c sq o s:I} (hc:InB c bz1) (hs:Up sq.hi ((bareI c).hi.q * (bareI c).hi.q)) (ho:o = ⟨one64,one64⟩) (h:Dn s.lo (o.lo.q - sq.hi.q)):0 ≤ s.lo.q := by
 have b := bare_ends (a := c) (inb_rt1 hc)
 have c0 := q_le.2 hc.1; have c1 := q_le.2 hc.2.1
 have z:(bz1.lo:F).q = 0 := by rw [show bz1.lo = F.zero from F.ext' (by decide +kernel)]; exact q_zero
 have e1:(bz1.hi:F).q = 1 := one_q
 rw [z] at c0
 rw [e1] at c1
 have hb:(bareI c).hi.q * (bareI c).hi.q ≤ 1 := by
  rcases b.2 with m | m
  ·have l := m.lo; have u := m.hi
   have := sq_bd (x := (bareI c).hi.q) (m := 1) (by grind) (by grind)
   grind
  ·have l := m.lo; have u := m.hi
   have := sq_bd (x := (bareI c).hi.q) (m := 1) (by grind) (by grind)
   grind
 have h1 := hs.bot one64 (by rw [one_q]; exact hb)
 rw [one_q] at h1
 subst ho
 refine dn_nn h ?_
 show 0 ≤ one64.q - sq.hi.q
 rw [one_q]; grind
theorem sq_nn1 {c sq:I} (h:Dn sq.lo ((bareI c).lo.q * (bareI c).lo.q)):0 ≤ sq.lo.q := dn_nn h (sq_nn _)
theorem fl_cons {b:Bool} {s:List Bool} {a:I} {v:List I} (h:b = true → 0 ≤ a.lo.q) (k:Flags s v):Flags (b :: s) (a :: v) := fun i hi => by
 cases i with
 | zero => exact h hi
 | succ i => exact k i hi
theorem fl_nil {v:List I}:Flags [] v := fun i hi => by
 rw [List.getD_eq_getElem?_getD] at hi
 simp at hi
def flO:List Bu.Op → List Bool → List Bool
 | [],s => s
 | o :: l,s => flO l (nnS o s :: s)
theorem chk_then {l2:List Bu.Op}:∀ {l1:List Bu.Op} {s:List Bool} {v:List I},chk l1 s = true → Flags s v → (∀ a ∈ v,rt a = true) →
  (∀ rs:List I,rs.length = l1.length → Flags (flO l1 s) (rs ++ v) → (∀ a ∈ rs ++ v,rt a = true) → CondE l2 (rs ++ v)) → CondE (l1 ++ l2) v
 | [],s,v,_,hf,hv,h => h [] rfl hf hv
 | o :: l, s, v, hc, hf, hv, h => by
   obtain ⟨h1,h2⟩ := both hc
   have ok := (chk_cond (l := [o]) (s := s) (by unfold chk; rw [h1]; rfl) hf hv).1
   refine ⟨ok,fun r hr rr => ?_⟩
   refine chk_then h2 (fl_cons (fun hn => fact_nn hv hf hr hn) hf) (fun a ha => by
    rcases List.mem_cons.1 ha with rfl | ha
    ·exact rr
    ·exact hv a ha) fun rs hl hF hR => ?_
   have e:rs ++ r :: v = (rs ++ [r]) ++ v := by rw [List.append_assoc]; rfl
   have := h (rs ++ [r]) (by rw [List.length_append,hl]; rfl)
   rw [← e] at this
   exact this hF hR
theorem cons_rt {a:I} {v:List I} (h:rt a = true) (k:∀ x ∈ v,rt x = true):∀ x ∈ a :: v,rt x = true := fun x hx => by
 rcases List.mem_cons.1 hx with rfl | hx
 ·exact h
 ·exact k x hx
theorem gg1_c {c al:I} (hc:InB c bz1) (ha:rt al = true):CondE gg1 [c,al] := by
 refine ⟨trivial,fun a2 f1 r1 => ⟨trivial,fun o1 f2 r2 => ⟨trivial,fun sq f3 r3 => ⟨trivial,fun o2 f4 r4 => ⟨trivial,fun s1 f5 r5 => ?_⟩⟩⟩⟩⟩
 have n5:0 ≤ s1.lo.q := less_nn hc f3.2 f4 f5.1
 exact chk_cond (s := [true,false,true,false,true]) (by decide +kernel) (fl_cons (fun _ => n5) (fl_cons (fun h => by cases h) (fl_cons (fun _ => sq_nn1 f3.1) (fl_cons (fun h => by cases h) (fl_cons (fun _ => sq_nn1 f1.1) fl_nil)))))
  (cons_rt r5 (cons_rt r4 (cons_rt r3 (cons_rt r2 (cons_rt r1 (rts2 (inb_rt1 hc) ha))))))
theorem len_s {n:Nat} {l:List I} (h:l.length = n + 1):∃ p k,l = p :: k ∧ k.length = n := by
 cases l with
 | nil => cases h
 | cons p k => exact ⟨p,k,rfl,Nat.succ.inj h⟩
theorem len11 {l:List I} (h:l.length = 11):∃ p1 p2 p3 p4 p5 p6 p7 p8 p9 p10 p11,l = [p1,p2,p3,p4,p5,p6,p7,p8,p9,p10,p11] := by
 obtain ⟨p1,l1,e1,h1⟩ := len_s h
 obtain ⟨p2,l2,e2,h2⟩ := len_s h1
 obtain ⟨p3,l3,e3,h3⟩ := len_s h2
 obtain ⟨p4,l4,e4,h4⟩ := len_s h3
 obtain ⟨p5,l5,e5,h5⟩ := len_s h4
 obtain ⟨p6,l6,e6,h6⟩ := len_s h5
 obtain ⟨p7,l7,e7,h7⟩ := len_s h6
 obtain ⟨p8,l8,e8,h8⟩ := len_s h7
 obtain ⟨p9,l9,e9,h9⟩ := len_s h8
 obtain ⟨p10,l10,e10,h10⟩ := len_s h9
 obtain ⟨p11,l11,e11,h11⟩ := len_s h10
 have e := List.eq_nil_of_length_eq_zero h11
 refine ⟨p1,p2,p3,p4,p5,p6,p7,p8,p9,p10,p11,?_⟩
 rw [e1,e2,e3,e4,e5,e6,e7,e8,e9,e10,e11,e]
theorem gg2_c {c d al:I} (hc:InB c bz1) (hd:InB d bz1) (ha:rt al = true):CondE gg2 [d,c,al] := by
 refine ⟨trivial,fun a2 f1 r1 => ⟨trivial,fun o1 f2 r2 => ⟨trivial,fun sq f3 r3 => ⟨trivial,fun o2 f4 r4 => ⟨trivial,fun s1 f5 r5 => ?_⟩⟩⟩⟩⟩
 have n5:0 ≤ s1.lo.q := less_nn hc f3.2 f4 f5.1
 have hh:gg2.drop 5 = (gg2.drop 5).take 11 ++ (gg2.drop 5).drop 11 := (List.take_append_drop 11 (gg2.drop 5)).symm
 suffices k:CondE ((gg2.drop 5).take 11 ++ (gg2.drop 5).drop 11) [s1,o2,sq,o1,a2,d,c,al] by
  rw [← hh] at k; exact k
 refine chk_then (s := [true,false,true,false,true]) (by kernel_rfl) (fl_cons (fun _ => n5) (fl_cons (fun h => by cases h) (fl_cons (fun _ => sq_nn1 f3.1) (fl_cons (fun h => by cases h) (fl_cons (fun _ => sq_nn1 f1.1) fl_nil)))))
  (cons_rt r5 (cons_rt r4 (cons_rt r3 (cons_rt r2 (cons_rt r1 (rts3 (inb_rt1 hd) (inb_rt1 hc) ha)))))) fun rs hl hF hR => ?_
 have hl':rs.length = 11 := hl.trans (by kernel_rfl)
 obtain ⟨p1,p2,p3,p4,p5,p6,p7,p8,p9,p10,p11,rfl⟩ := len11 hl'
 show CondE (gg2.drop 16) [p1,p2,p3,p4,p5,p6,p7,p8,p9,p10,p11,s1,o2,sq,o1,a2,d,c,al]
 refine ⟨trivial,fun sqd g1 q1 => ⟨trivial,fun o2d g2 q2 => ⟨trivial,fun s1d g3 q3 => ?_⟩⟩⟩
 have n3:0 ≤ s1d.lo.q := less_nn hd g1.2 g2 g3.1
 exact chk_cond (s := true :: false :: true :: flO ((gg2.drop 5).take 11) [true,false,true,false,true]) (by kernel_rfl) (fl_cons (fun _ => n3) (fl_cons (fun h => by cases h) (fl_cons (fun _ => sq_nn1 g1.1) hF)))
  (cons_rt q3 (cons_rt q2 (cons_rt q1 hR)))
end Go.Proofs.YtejcekikbnlllaaGreat
namespace Bu
open Rx Go
theorem ask_zz {e:Int} {g:Bool} {r:I × Int} (h:(askI e g r).2 ≠ 0):(askI e g r).1 = I.zero := by
 unfold askI at h ⊢
 cases h1:!(e == 0)
 ·rw [h1,cond_false] at h
  have he:e = 0 := by simpa using h1
  cases g
  ·rfl
  ·rw [cond_true] at h
   cases h2:!(r.2 == 0)
   ·rw [h2,cond_false] at h
    exact absurd he h
   ·rfl
 ·rfl
def uQ1 (x:F):I × Int := cSqr dMul 0 (pt x)
def uQ2 (x y:F):I × Int := cSqr dMul (uQ1 x).2 (pt y)
def uS1 (x y:F):I × Int := cAdd dAdd (uQ2 x y).2 (uQ1 x).1 (uQ2 x y).1
def uQ3 (x y z:F):I × Int := cSqr dMul (uS1 x y).2 (pt z)
def uS2 (x y z:F):I × Int := cAdd dAdd (uQ3 x y z).2 (uS1 x y).1 (uQ3 x y z).1
def uN (x y z:F):I × Int := cSqrt qSqrt (uS2 x y z).2 (uS2 x y z).1
def uD1 (x y z:F):I × Int := cDiv pDiv (uN x y z).2 (pt x) (uN x y z).1
def uD2 (x y z:F):I × Int := cDiv pDiv (uD1 x y z).2 (pt y) (uN x y z).1
def uD3 (x y z:F):I × Int := cDiv pDiv (uD2 x y z).2 (pt z) (uN x y z).1
theorem un_raw (x y z:F):unV KkR x y z = ⟨withI (uD1 x y z).1,withI (uD2 x y z).1,withI (uD3 x y z).1⟩ := by
 have hE:unE KkR x y z = ([withI (uD3 x y z).1,(uD3 x y z).1,withI (uD2 x y z).1,(uD2 x y z).1,withI (uD1 x y z).1,(uD1 x y z).1,(uN x y z).1,(uS2 x y z).1,(uQ3 x y z).1,(uS1 x y).1,(uQ2 x y).1,(uQ1 x).1,pt z,pt y,pt x],(uD3 x y z).2) := by
  unfold unE unP
  refine (eval_cons (r := pt x) (e' := 0) ?_).trans ?_
  ·exact rfl
  refine (eval_cons (r := pt y) (e' := 0) ?_).trans ?_
  ·exact rfl
  refine (eval_cons (r := pt z) (e' := 0) ?_).trans ?_
  ·exact rfl
  refine (eval_cons (r := (uQ1 x).1) (e' := (uQ1 x).2) ?_).trans ?_
  ·exact rfl
  refine (eval_cons (r := (uQ2 x y).1) (e' := (uQ2 x y).2) ?_).trans ?_
  ·exact rfl
  refine (eval_cons (r := (uS1 x y).1) (e' := (uS1 x y).2) ?_).trans ?_
  ·exact rfl
  refine (eval_cons (r := (uQ3 x y z).1) (e' := (uQ3 x y z).2) ?_).trans ?_
  ·exact rfl
  refine (eval_cons (r := (uS2 x y z).1) (e' := (uS2 x y z).2) ?_).trans ?_
  ·exact rfl
  refine (eval_cons (r := (uN x y z).1) (e' := (uN x y z).2) ?_).trans ?_
  ·exact rfl
  refine (eval_cons (r := (uD1 x y z).1) (e' := (uD1 x y z).2) ?_).trans ?_
  ·exact rfl
  refine (eval_cons (r := withI (uD1 x y z).1) (e' := (uD1 x y z).2) ?_).trans ?_
  ·exact rfl
  refine (eval_cons (r := (uD2 x y z).1) (e' := (uD2 x y z).2) ?_).trans ?_
  ·exact rfl
  refine (eval_cons (r := withI (uD2 x y z).1) (e' := (uD2 x y z).2) ?_).trans ?_
  ·exact rfl
  refine (eval_cons (r := (uD3 x y z).1) (e' := (uD3 x y z).2) ?_).trans ?_
  ·exact rfl
  refine (eval_cons (r := withI (uD3 x y z).1) (e' := (uD3 x y z).2) ?_).trans ?_
  ·exact rfl
  rfl
 unfold unV; rw [hE]; rfl
theorem with_lo {a:I} (h:z64.k ≤ a.lo.k):z64.k ≤ (withI a).lo.k := by
 unfold withI
 cases decide ((mnF a.hi one64).k < (mxF a.lo mone64).k)
 ·have := mxF_k a.lo mone64
  show z64.k ≤ (mxF a.lo mone64).k
  omega
 ·exact (by decide +kernel:z64.k ≤ I.zero.lo.k)
theorem z64_q:z64.q = 0 := by rw [show z64 = F.zero from F.ext' (by decide +kernel)]; exact q_zero
theorem un_in {x y z:F} (hz:z64.k < z.k):In1 (unV KkR x y z).x ∧ In1 (unV KkR x y z).y ∧ InB (unV KkR x y z).z bz1 := by
 rw [un_raw]
 have h:z64.k ≤ (uD3 x y z).1.lo.k := by
  by_cases h:(uD3 x y z).2 = 0
  ·obtain ⟨h1,_,hr,hn,_,hA⟩ := div_0 (h:(cDiv pDiv (uD2 x y z).2 (pt z) (uN x y z).1).2 = 0)
   obtain ⟨h2,_⟩ := div_0 (h1:(cDiv pDiv (uD1 x y z).2 (pt y) (uN x y z).1).2 = 0)
   obtain ⟨h3,_⟩ := div_0 (h2:(cDiv pDiv (uN x y z).2 (pt x) (uN x y z).1).2 = 0)
   obtain ⟨_,_,_,_,d,u⟩ := sqrt_0 (h3:(cSqrt qSqrt (uS2 x y z).2 (uS2 x y z).1).2 = 0)
   have d0:0 ≤ (uN x y z).1.lo.q := d.nn
   have np:0 < (uN x y z).1.lo.q := by
    rcases no_zero hr hn with g | g
    ·exact g
    ·have := rt_le hr; grind
   have nh := rt_le hr
   have zq:0 < z.q := by rw [← z64_q]; exact q_lt.2 hz
   have pos:∀ {n:Rat},0 < n → 0 ≤ z.q / n := by
    intro n hn
    have e:z.q / n * n = z.q := Rat.div_mul_cancel (by grind)
    generalize z.q / n = m at *
    apply Rat.not_lt.1
    intro g
    have := Rat.mul_pos (show 0 < -m by grind) hn
    grind
   have a := pos np
   have b := pos (show 0 < (uN x y z).1.hi.q by grind)
   have a':z64.q ≤ z.q / (uN x y z).1.lo.q := by rw [z64_q]; exact a
   have b':z64.q ≤ z.q / (uN x y z).1.hi.q := by rw [z64_q]; exact b
   exact q_le.1 (hA.top (c := z64) a' b' a' b')
  ·have e:(uD3 x y z).1 = I.zero := by
    have h':(cDiv pDiv (uD2 x y z).2 (pt z) (uN x y z).1).2 ≠ 0 := h
    show (cDiv pDiv (uD2 x y z).2 (pt z) (uN x y z).1).1 = I.zero
    unfold cDiv at h' ⊢
    exact ask_zz h'
   rw [e]; exact (by decide +kernel:z64.k ≤ I.zero.lo.k)
 have w := withI_in (uD3 x y z).1
 exact ⟨withI_in _,withI_in _,with_lo h,w.hi,w.rt⟩
end Bu
namespace Go.Proofs.YtejcekikbnlllaaGreat
open Go.RowKit Bu Rx
theorem zero_rt:rt I.zero = true := by decide
theorem num_re {e:Int} (he:Er e) (x:F):RE (KkR.num e x) := by
 by_cases h:e = 0
 ·subst h
  exact ⟨.inl rfl,(decide_eq_true (Int.le_refl _):rt (⟨x,x⟩:I) = true)⟩
 ·have e1:KkR.num e x = (I.zero,e) := ask_kept h _ _
  rw [e1]; exact ⟨he,zero_rt⟩
theorem add_re {e:Int} {a b:I} (he:Er e) (ha:rt a = true) (hb:rt b = true):RE (KkR.add e a b) := by
 refine ⟨ask_er he (by rw [ha,hb]; rfl) (ends_er (dAdd_RD _ _).er (dAdd_RU _ _).er),?_⟩
 by_cases h:(cAdd dAdd e a b).2 = 0
 ·obtain ⟨_,_,_,_,d,u⟩ := add_0 h
  have l1 := rt_le ha; have l2 := rt_le hb
  exact rt_q (a := (cAdd dAdd e a b).1) (by have := d.le; have := u.ge; grind)
 ·show rt (cAdd dAdd e a b).1 = true
  unfold cAdd at h ⊢
  rw [ask_zz h]; exact zero_rt
theorem sub_re {e:Int} {a b:I} (he:Er e) (ha:rt a = true) (hb:rt b = true):RE (KkR.sub e a b) := by
 refine ⟨ask_er he (by rw [ha,hb]; rfl) (ends_er (dSub_RD _ _).er (dSub_RU _ _).er),?_⟩
 by_cases h:(cSub dSub e a b).2 = 0
 ·obtain ⟨_,_,_,_,d,u⟩ := sub_0 h
  have l1 := rt_le ha; have l2 := rt_le hb
  exact rt_q (a := (cSub dSub e a b).1) (by have := d.le; have := u.ge; grind)
 ·show rt (cSub dSub e a b).1 = true
  unfold cSub at h ⊢
  rw [ask_zz h]; exact zero_rt
theorem mul_re {e:Int} {a b:I} (he:Er e) (ha:rt a = true) (hb:rt b = true):RE (KkR.mul e a b) := by
 refine ⟨ask_er he (by rw [ha,hb]; rfl) (all_er (mul_four a b)),?_⟩
 by_cases h:(cMul dMul e a b).2 = 0
 ·obtain ⟨_,_,_,_,A⟩ := mul_0 h
  exact AllR.rt A
 ·show rt (cMul dMul e a b).1 = true
  unfold cMul at h ⊢
  rw [ask_zz h]; exact zero_rt
theorem sqr_re {e:Int} {a:I} (he:Er e) (ha:rt a = true):RE (KkR.sqr e a) := by
 refine ⟨ask_er he ha (ends_er (dMul_RD _ _).er (dMul_RU _ _).er),?_⟩
 by_cases h:(cSqr dMul e a).2 = 0
 ·obtain ⟨_,_,_,d,u⟩ := sqr_0 h
  obtain ⟨b1,b2,_⟩ := bare_gen ha
  have m := Rat.mul_nonneg (show 0 ≤ (bareI a).hi.q - (bareI a).lo.q by grind) (show 0 ≤ (bareI a).hi.q + (bareI a).lo.q by grind)
  exact rt_q (a := (cSqr dMul e a).1) (by have := d.le; have := u.ge; grind)
 ·show rt (cSqr dMul e a).1 = true
  unfold cSqr at h ⊢
  rw [ask_zz h]; exact zero_rt
theorem mixK_re {e:Int} {w:F} {a b:I} (he:Er e) (ha:rt a = true) (hb:rt b = true):RE (mixK KkR e w a b) := by
 unfold mixK
 have q1 := num_re he one_
 have q2 := num_re q1.er w
 have s := sub_re q2.er q1.rt q2.rt
 have m1 := mul_re s.er s.rt ha
 have q3 := num_re m1.er w
 have m2 := mul_re q3.er q3.rt hb
 exact add_re m2.er m1.rt m2.rt
structure Rc (c:Ch):Prop where
 p:rt c.p = true
 m:rt c.m = true
structure REc (r:Ch × Int):Prop where
 er:Er r.2
 rt:Rc r.1
theorem mixC_re {w:F} {a b:Ch} (ha:Rc a) (hb:Rc b):REc (mixC KkR w a b) := by
 have p := mixK_re (w := w) (.inl rfl:Er 0) ha.p hb.p
 have m := mixK_re (w := w) p.er ha.m hb.m
 exact ⟨m.er,p.rt,m.rt⟩
theorem overC_re {i o:I} {w:F} {a:Ch} (hi:rt i = true) (ho:rt o = true) (ha:Rc a):REc (overC KkR i o w a) := by
 unfold overC
 have q1 := num_re (.inl rfl:Er 0) one_
 have qw := num_re q1.er w
 have s := sub_re qw.er q1.rt ho
 have h := sub_re s.er q1.rt hi
 have x := mul_re h.er h.rt s.rt
 have y := mul_re x.er x.rt qw.rt
 have f := mul_re y.er y.rt ha.p
 have q := sqr_re f.er s.rt
 have t := mul_re q.er q.rt qw.rt
 have z := mul_re t.er t.rt ha.m
 have r := add_re z.er ho z.rt
 exact ⟨r.er,f.rt,r.rt⟩
theorem hull_rtB {a b:I} (ha:rt a = true) (hb:rt b = true):rt (hullI a b) = true := by
 refine rt_q ?_
 have l1 := rt_le ha
 have h1 := (mnF_q a.lo b.lo).1
 have h2 := (mxF_q a.hi b.hi).1
 show (mnF a.lo b.lo).q ≤ (mxF a.hi b.hi).q
 grind
theorem hdC_er {r s i o d:I} (hr:rt r = true) (hs:rt s = true) (hi:rt i = true) (ho:rt o = true) (hd:rt d = true) (h1:z64.k < (orQ KkR i o d).hi.k) (h2:(orQ KkR i o d).lo.k < z64.k):Er (hdC r s i o d).2 := by
 have p := mul_re (.inl rfl:Er 0) hi ho
 have q := sub_re p.er hd p.rt
 have e:hdC r s i o d = evalK KkR ((orC.take 8).drop 2) [(KkR.sub (KkR.mul 0 i o).2 d (KkR.mul 0 i o).1).1,(KkR.mul 0 i o).1,d,o,i,s,r] (KkR.sub (KkR.mul 0 i o).2 d (KkR.mul 0 i o).1).2 := by
  unfold hdC
  refine (eval_cons (r := (KkR.mul 0 i o).1) (e' := (KkR.mul 0 i o).2) ?_).trans ?_
  ·exact rfl
  refine (eval_cons (r := (KkR.sub (KkR.mul 0 i o).2 d (KkR.mul 0 i o).1).1) (e' := (KkR.sub (KkR.mul 0 i o).2 d (KkR.mul 0 i o).1).2) ?_).trans ?_
  ·exact rfl
  rfl
 rw [e]
 have h1':z64.k < (KkR.sub (KkR.mul 0 i o).2 d (KkR.mul 0 i o).1).1.hi.k := h1
 have h2':(KkR.sub (KkR.mul 0 i o).2 d (KkR.mul 0 i o).1).1.lo.k < z64.k := h2
 have prt := p.rt
 clear e h1 h2 p
 generalize KkR.sub (KkR.mul 0 i o).2 d (KkR.mul 0 i o).1 = Q at *
 generalize (KkR.mul 0 i o).1 = P at *
 by_cases g:Q.2 = 0
 ·rw [g]
  refine eval_er (cons_rt q.rt (cons_rt prt (rts5 hd ho hi hs hr))) ⟨?_,fun hp f1 r1 => ⟨trivial,fun mx f2 r2 => ⟨trivial,fun up f3 r3 => ⟨?_,fun hn f4 r4 => ⟨?_,fun hu f5 r5 => ⟨trivial,fun _ _ _ => trivial⟩⟩⟩⟩⟩⟩
  ·exact decide_eq_true (Int.le_of_lt h1')
  ·exact decide_eq_true (Int.le_of_lt h2')
  ·exact hull_rtB r4 r3
 ·rw [eval_kept g]; exact q.er
theorem orA_c:chk (orA.take 3) [false,false,false,false,false] = true := by decide +kernel
theorem orB_c:chk (orB.take 5) [false,false,false,false,false] = true := by decide +kernel
theorem orR_re {r s i o d:I} (hr:Uz1 r) (hs:Uz1 s) (hi:rt i = true) (ho:rt o = true) (hd:rt d = true):RE (orR KkR r s i o d) := by
 have v5 := rts5 hd ho hi hs.rt hr.rt
 have he:Er (hdS r s i o d).2 := by
  unfold hdS
  cases c1:decide ((orQ KkR i o d).hi.k ≤ z64.k)
  ·rw [cond_false]
   cases c2:decide (z64.k ≤ (orQ KkR i o d).lo.k)
   ·have h1 := of_decide_eq_false c1
    have h2 := of_decide_eq_false c2
    exact hdC_er hr.rt hs.rt hi ho hd (by omega) (by omega)
   ·exact eval_er' orB_c (no_fl _ rfl) v5
  ·exact eval_er' orA_c (no_fl _ rfl) v5
 by_cases h:(orR KkR r s i o d).2 = 0
 ·obtain ⟨sl,h1,h2⟩ := or_to hr hs h
  rw [h2]
  exact ⟨.inl rfl,(orV_in hr hs (sl_b h1)).rt⟩
 ·rw [or_val hr hs] at h ⊢
  cases c:neB (hdS r s i o d).2
  ·rw [c] at h; exact absurd rfl h
  ·exact ⟨he,zero_rt⟩
theorem glM_re {g:Gl4 × Int} {r:I × Int} (hg:Er g.2) (hv:g.2 = 0 → rt g.1.v = true) (hr:g.2 = 0 → RE r):RE (glM KkR g r) := by
 unfold glM
 cases c1:neB g.2
 ·have g0 := neB_0 c1
  have hr := hr g0
  rw [cond_false]
  cases c2:neB r.2
  ·rw [cond_false]
   have m := mul_re (.inl rfl:Er 0) (hv g0) hr.rt
   cases c3:neB (KkR.mul 0 g.1.v r.1).2
   ·exact ⟨.inl rfl,m.rt⟩
   ·exact ⟨m.er,zero_rt⟩
  ·exact ⟨hr.er,zero_rt⟩
 ·exact ⟨hg,zero_rt⟩
theorem bz_hf {v u:V3} (hv:Wd v) (hu:Wd u) (h:(Bu.miK KkR v u).2 = 0):InB (gt (Bu.miK KkR v u).1 3) bz1 := by
 obtain ⟨_,b⟩ := hl_in h
 have b3:rt (gt (Bu.miK KkR v u).1 3) = true := b _ (List.mem_cons_of_mem _ (List.mem_cons_of_mem _ (List.mem_cons_self ..)))
 have b2 := of_decide_eq_true (b _ (List.mem_cons_of_mem _ (List.mem_cons_self ..)))
 have b1 := of_decide_eq_true (b _ (List.mem_cons_self ..))
 exact ⟨b2,b1,of_decide_eq_true b3⟩
theorem ggR_re {p:List Bu.Op} {c al:I} (hv:∀ x ∈ [c,al],rt x = true) (hc:CondE p [c,al]):RE (ggR KkR p c al) := line_re hv hc 0
structure GlP (v u:V3) (al:I):Prop where
 er:Er (glR KkR GlR v u al).2
 vv:(glR KkR GlR v u al).2 = 0 → rt (glR KkR GlR v u al).1.v = true
 dd:(glR KkR GlR v u al).2 = 0 → rt (glR KkR GlR v u al).1.d = true
 hh:(glR KkR GlR v u al).2 = 0 → InB (glR KkR GlR v u al).1.hf bz1
theorem gl_re {v u:V3} {al:I} (hv:Wd v) (hu:Wd u) (ha:rt al = true):GlP v u al := by
 have H:Er (Bu.miK KkR v u).2 := eval_er (hv.six hu) (mi_c hv hu)
 have L := line_re (hv.six hu) (mi_c hv hu) 0
 have D:RE (ggR KkR ggD (glH GlR v u).1 al) := ggR_re (rts2 L.rt ha) (gd_c L.rt ha)
 have G:RE (lnR (g2K KkR v.z u.z al) 0) := line_re (rts3 (inb_rt1 hu.z) (inb_rt1 hv.z) ha) (gg2_c hv.z hu.z ha) 0
 have O:RE (ggR KkR gg1 u.z al) := ggR_re (rts2 (inb_rt1 hu.z) ha) (gg1_c hu.z ha)
 have hv5:∀ x ∈ [(GlR.o u.z al).1,(GlR.b v.z u.z al).1,(GlR.d (glH GlR v u).1 al).1,u.z,v.z],rt x = true := rts5 O.rt G.rt D.rt (inb_rt1 hu.z) (inb_rt1 hv.z)
 have c5 := mv_c O.rt G.rt D.rt (inb_rt1 hu.z) (inb_rt1 hv.z)
 have M:Er (glE KkR GlR v u al).2 := eval_er hv5 c5
 have he:Er (glErr KkR GlR v u al) := by
  unfold glErr
  cases neB (GlR.H v u).2
  ·rw [cond_false]
   cases neB (GlR.d (glH GlR v u).1 al).2
   ·rw [cond_false]
    cases neB (GlR.b v.z u.z al).2
    ·rw [cond_false]
     cases neB (GlR.o u.z al).2
     ·exact M
     ·exact O.er
    ·exact G.er
   ·exact D.er
  ·exact H
 have hz:glErr KkR GlR v u al = 0 → (Bu.miK KkR v u).2 = 0 ∧ (glE KkR GlR v u al).2 = 0 := by
  intro h
  unfold glErr at h
  cases c1:neB (GlR.H v u).2
  ·rw [c1,cond_false] at h
   cases c2:neB (GlR.d (glH GlR v u).1 al).2
   ·rw [c2,cond_false] at h
    cases c3:neB (GlR.b v.z u.z al).2
    ·rw [c3,cond_false] at h
     cases c4:neB (GlR.o u.z al).2
     ·rw [c4,cond_false] at h
      exact ⟨neB_0 c1,h⟩
     ·rw [c4,cond_true] at h; rw [h] at c4; cases c4
    ·rw [c3,cond_true] at h; rw [h] at c3; cases c3
   ·rw [c2,cond_true] at h; rw [h] at c2; cases c2
  ·rw [c1,cond_true] at h; rw [h] at c1; cases c1
 cases c:neB (glErr KkR GlR v u al)
 ·obtain ⟨z1,z2⟩ := hz (neB_0 c)
  have R := fun i => line_rt hv5 c5 z2 i
  have e1:glR KkR GlR v u al = (glV KkR GlR v u al,0) := by unfold glR; rw [c]; rfl
  refine ⟨by rw [e1]; exact .inl rfl,fun _ => by rw [e1]; exact R 3,fun _ => by rw [e1]; exact R 0,fun _ => ?_⟩
  rw [e1]
  show InB (lnR (Bu.miK KkR v u) 3).1 bz1
  rw [lnR_0 z1]
  exact bz_hf hv hu z1
 ·have e1:glR KkR GlR v u al = (Gl4.zero,glErr KkR GlR v u al) := by unfold glR; rw [c]; rfl
  have hn:glErr KkR GlR v u al ≠ 0 := fun h => by rw [h] at c; cases c
  exact ⟨by rw [e1]; exact he,fun h => by rw [e1] at h; exact absurd h hn,fun h => by rw [e1] at h; exact absurd h hn,fun h => by rw [e1] at h; exact absurd h hn⟩
theorem val_re {l:Lf} (hl:LfO l) (hv:Wd l.v) (hu:Wd l.u):RE (vlG GmR KkR l) := by
 obtain ⟨k,f,c,v,u⟩ := l
 have r := hl.r; have n := hl.n
 simp only at r n hv hu
 rcases rt_kind r with e | e | e | e <;> subst e
 ·rw [val1_eq]
  unfold meL
  rw [gm_lb]
  exact line_re (rts1 (pF_rt _)) (lb_c (pF_rt _)) 0
 ·rw [val2_eq]
  obtain ⟨a,b⟩ := rt2_in r n
  by_cases h:(dtK KkR v u).2 = 0
  ·rw [meO_eq h]
   exact orR_re (uz_of a) (uz_of b) (inb_rt1 hv.z) (inb_rt1 hu.z) (line_rt (hv.six hu) (dt_c hv hu) h 0)
  ·have he:Er (dtK KkR v u).2 := eval_er (hv.six hu) (dt_c hv hu)
   have e1:meO KkR GmR f c.toNat v u = (I.zero,(dtK KkR v u).2) := by
    unfold meO
    rw [show neB (dtK KkR v u).2 = true by unfold neB; simpa using h]; rfl
   rw [e1]; exact ⟨he,zero_rt⟩
 ·rw [val3_eq]
  obtain ⟨a,b⟩ := rt3_in r
  have G := gl_re hv hu (pF_rt (f 13))
  unfold meP
  rw [gm_gl,gm_dl]
  refine glM_re G.er G.vv fun g0 => ?_
  obtain ⟨x,hx,ux⟩ := fd_all (G.hh g0) (bn_of b)
  have k:RE (lnR (fdK KkR (glR KkR GlR v u (pF (f 13))).1.hf (pF (f 14))) 0) := by rw [hx]; exact ⟨.inl rfl,ux.rt⟩
  exact k
 ·rw [val4_eq]
  have G := gl_re hv hu (pF_rt (f 13))
  unfold meM
  rw [gm_gl,gm_cd]
  refine glM_re G.er G.vv fun g0 => ?_
  have hh := inb_rt1 (G.hh g0)
  exact line_re (rts3 hh (pF_rt _) (pF_rt _)) (fc_c hh (pF_rt _) (pF_rt _)) 0
theorem den_re {l:Lf} (hl:LfO l) (hv:Wd l.v) (hu:Wd l.u):RE (dnG4 GmR l) := by
 obtain ⟨k,f,c,v,u⟩ := l
 have r := hl.r
 simp only at r hv hu
 have G := gl_re hv hu (pF_rt (f 13))
 have gd:RE ((glR KkR GlR v u (pF (f 13))).1.d,(glR KkR GlR v u (pF (f 13))).2) := by
  refine ⟨G.er,?_⟩
  by_cases g0:(glR KkR GlR v u (pF (f 13))).2 = 0
  ·exact G.dd g0
  ·show rt (glR KkR GlR v u (pF (f 13))).1.d = true
   unfold glR at g0 ⊢
   cases c:neB (glErr KkR GlR v u (pF (f 13)))
   ·rw [c] at g0; exact absurd rfl g0
   ·exact (by decide:rt Gl4.zero.d = true)
 rcases rt_kind r with e | e | e | e <;> subst e
 ·rw [den1_eq,gm_lb]; exact line_re (rts1 (inb_rt1 hv.z)) (lb_c (inb_rt1 hv.z)) 0
 ·rw [den2_eq,gm_lb]; exact line_re (rts1 (inb_rt1 hv.z)) (lb_c (inb_rt1 hv.z)) 0
 ·rw [den3_eq,gm_gl]; exact gd
 ·rw [den4_eq,gm_gl]; exact gd
theorem one_wd {v:V3} (h:OneP v):Wd v := ⟨h.x,h.y,q_le.1 (by
 have e:(bz1.lo:F).q = 0 := by rw [show bz1.lo = F.zero from F.ext' (by decide +kernel)]; exact q_zero
 have := h.up
 rw [e]; grind),h.z.hi,h.z.rt⟩
theorem fst3_er {a b c:Int} (ha:Er a) (hb:Er b) (hc:Er c):Er (fst3 a b c) := by
 unfold fst3
 cases decide (a = 0)
 ·exact ha
 ·cases decide (b = 0)
  ·exact hb
  ·exact hc
theorem leafW {n:Nd} {p:Int} (h:okNd n p = true) (h5:n.k ≠ 5) (h6:n.k ≠ 6) {v u:V3} (hv:Wd v) (hu:Wd u) {c:Int} (c0:0 ≤ c) (c3:c < 3):LfO ⟨n.k,etaF n.f,c,v,u⟩ := ⟨nd_leaf h h5 h6,hv.dir,hu.dir,c0,c3⟩
theorem evPs_w {cs:List SV} {len:Nat} (K:OkPg cs len) {v u:V3} (hv:Wd v) (hu:Wd u):evPs NeR v u cs len = true :=
 List.all_eq_true.2 fun i hi => by
  have hnd := K.nd i (List.mem_range.1 hi)
  unfold evPB
  generalize ndR cs (i * 19) = n at hnd
  by_cases h5:n.k = 5
  ·rw [decide_eq_true h5,cond_true]
  ·rw [decide_eq_false h5,cond_false]
   by_cases h6:n.k = 6
   ·rw [decide_eq_true h6,cond_true,Bool.and_eq_true]
    exact ⟨obsB_of (fd_o hv.z (okNd_coatf hnd h6).1),obsB_of (fd_o hu.z (okNd_coatf hnd h6).1)⟩
   ·rw [decide_eq_false h6,cond_false]
    obtain ⟨a0,b0⟩ := okNd_leaf hnd h5 h6
    have q:∀ k:Nat,k < 3 → Bu.obsB (lfOb NeR v u n k) = true := fun k hk => obsB_of (ob_c (decide_eq_true a0) (ob_c (decide_eq_true b0) (leafW hnd h5 h6 hv hu (c := (k:Int)) (by omega) (by omega)).val))
    rw [q 0 (by omega),q 1 (by omega),q 2 (by omega)]; rfl
theorem evN_re {v u:V3} (hv:Wd v) (hu:Wd u) {n:Nd} {p:Int} (hnd:okNd n p = true) {k:Nat} (hk:k < 3) {l:Nat → Ch} (ha:n.k = 5 ∨ n.k = 6 → Rc (l n.a.toNat)) (hb:n.k = 5 → Rc (l n.b.toNat)):REc (evN NeR v u k l n) := by
 unfold evN
 by_cases h5:n.k = 5
 ·rw [decide_eq_true h5,cond_true]
  exact mixC_re (ha (.inl h5)) (hb h5)
 ·rw [decide_eq_false h5,cond_false]
  by_cases h6:n.k = 6
  ·rw [decide_eq_true h6,cond_true]
   obtain ⟨x,hx,ux⟩ := fd_all hv.z (bn_of (okNd_coatf hnd h6).1)
   obtain ⟨y,hy,uy⟩ := fd_all hu.z (bn_of (okNd_coatf hnd h6).1)
   have e1:NeR.D v.z ⟨n.f 14,n.f 14⟩ = (x,0) := hx
   have e2:NeR.D u.z ⟨n.f 14,n.f 14⟩ = (y,0) := hy
   rw [e1,e2]
   exact overC_re ux.rt uy.rt (ha (.inr h6))
  ·rw [decide_eq_false h6,cond_false]
   have r := val_re (leafW hnd h5 h6 hv hu (c := (k:Int)) (by omega) (by omega)) hv hu
   exact ⟨r.er,r.rt,zero_rt⟩
theorem evr_re {v u:V3} (hv:Wd v) (hu:Wd u) {n:Nd} {p:Int} (hnd:okNd n p = true) {l:Nat → Nat → Ch} (ha:n.k = 5 ∨ n.k = 6 → ∀ k,k < 3 → Rc (l k n.a.toNat)) (hb:n.k = 5 → ∀ k,k < 3 → Rc (l k n.b.toNat)):Er (evEr NeR v u l n) := by
 have X := fun k (hk:k < 3) => evN_re hv hu hnd hk (l := l k) (fun h => ha h k hk) (fun h => hb h k hk)
 have F := fst3_er (X 0 (by omega)).er (X 1 (by omega)).er (X 2 (by omega)).er
 unfold evEr
 by_cases h6:n.k = 6
 ·rw [decide_eq_true h6,cond_true]
  obtain ⟨x,hx,_⟩ := fd_all hv.z (bn_of (okNd_coatf hnd h6).1)
  obtain ⟨y,hy,_⟩ := fd_all hu.z (bn_of (okNd_coatf hnd h6).1)
  have e1:(NeR.D v.z ⟨n.f 14,n.f 14⟩).2 = 0 := congrArg Prod.snd hx
  have e2:(NeR.D u.z ⟨n.f 14,n.f 14⟩).2 = 0 := congrArg Prod.snd hy
  rw [decide_eq_true e1,cond_true,decide_eq_true e2,cond_true]
  exact F
 ·rw [decide_eq_false h6,cond_false]; exact F
theorem ev_re {v u:V3} (hv:Wd v) (hu:Wd u) {cs:List SV} {len:Nat} (K:OkPg cs len):∀ i,i < len → Er (evF NeR v u cs i) ∧ ∀ k,k < 3 → Rc (ltF NeR v u cs k i) := by
 intro i
 induction i using Nat.strongRecOn with
 | _ i ih =>
   intro hi
   have hnd := K.nd i hi
   have g:∀ {k:Nat} {a:Int},0 ≤ a → a < i → evL NeR v u cs i k a.toNat = ltF NeR v u cs k a.toNat := fun _ _ => chL_get _ (by omega)
   have M:∀ {a:Int},0 ≤ a → a < i → ∀ k,k < 3 → Rc (evL NeR v u cs i k a.toNat) := fun a0 a1 k hk => by
    rw [g a0 a1]
    exact (ih _ (by omega) (by omega)).2 k hk
   have ha:(ndR cs (i * 19)).k = 5 ∨ (ndR cs (i * 19)).k = 6 → ∀ k,k < 3 → Rc (evL NeR v u cs i k (ndR cs (i * 19)).a.toNat) := fun h56 => M (h56.elim (fun h5 => (okNd_mix hnd h5).1.1) fun h6 => (okNd_coat hnd h6).1) (h56.elim (fun h5 => (okNd_mix hnd h5).1.2) fun h6 => (okNd_coat hnd h6).2)
   have hb:(ndR cs (i * 19)).k = 5 → ∀ k,k < 3 → Rc (evL NeR v u cs i k (ndR cs (i * 19)).b.toNat) := fun h5 => M (okNd_mix hnd h5).2.1 (okNd_mix hnd h5).2.2
   exact ⟨evr_re hv hu hnd ha hb,fun k hk => (evN_re hv hu hnd hk (fun h => ha h k hk) (fun h => hb h k hk)).rt⟩
theorem evE_er {v u:V3} (hv:Wd v) (hu:Wd u) {cs:List SV} {len:Nat} (K:OkPg cs len):∀ j,j ≤ len → Er (evE NeR v u cs j)
 | 0,_ => .inl rfl
 | j + 1, h => by
   have e:evE NeR v u cs (j + 1) = bif decide (evE NeR v u cs j = 0) then evF NeR v u cs j else evE NeR v u cs j := rfl
   rw [e]
   cases decide (evE NeR v u cs j = 0)
   ·exact evE_er hv hu K j (by omega)
   ·exact (ev_re hv hu K j (by omega)).1
theorem coatC_re {o:I} {a:Ch} (ho:rt o = true) (ha:Rc a):REc (coatC KkR o a) := by
 unfold coatC lessK
 have q := num_re (.inl rfl:Er 0) one_
 have s := sub_re q.er q.rt ho
 have x := mul_re s.er s.rt ha.p
 have y := mul_re x.er s.rt ha.m
 have z := add_re y.er ho y.rt
 exact ⟨z.er,x.rt,z.rt⟩
theorem daPs_w {cs:List SV} {len:Nat} (K:OkPg cs len) {v u:V3} (hv:Wd v) (hu:Wd u):daPs NdR u.z (lfRo dnO4 v u) cs len = true :=
 List.all_eq_true.2 fun i hi => by
  have hnd := K.nd i (List.mem_range.1 hi)
  unfold nodP
  generalize ndR cs (i * 19) = n at hnd
  by_cases h5:n.k = 5
  ·rw [decide_eq_true h5,cond_true]
  ·rw [decide_eq_false h5,cond_false]
   by_cases h6:n.k = 6
   ·rw [decide_eq_true h6,cond_true]
    exact obsB_of (fd_o hu.z (okNd_coatf hnd h6).1)
   ·rw [decide_eq_false h6,cond_false]
    obtain ⟨a0,b0⟩ := okNd_leaf hnd h5 h6
    exact obsB_of (ob_c (decide_eq_true a0) (ob_c (decide_eq_true b0) (leafW hnd h5 h6 hv hu (Int.le_refl _) (by decide)).den))
theorem nodC_re {v u:V3} (hv:Wd v) (hu:Wd u) {n:Nd} {p:Int} (hnd:okNd n p = true) {l:Nat → Ch} (ha:n.k = 5 ∨ n.k = 6 → Rc (l n.a.toNat)) (hb:n.k = 5 → Rc (l n.b.toNat)):REc (nodC NdR u.z (lfR (dnG4 GmR) v u) l n) := by
 unfold nodC
 by_cases h5:n.k = 5
 ·rw [decide_eq_true h5,cond_true]
  exact mixC_re (ha (.inl h5)) (hb h5)
 ·rw [decide_eq_false h5,cond_false]
  by_cases h6:n.k = 6
  ·rw [decide_eq_true h6,cond_true]
   obtain ⟨y,hy,uy⟩ := fd_all hu.z (bn_of (okNd_coatf hnd h6).1)
   have e2:NdR.D u.z ⟨n.f 14,n.f 14⟩ = (y,0) := hy
   rw [e2]
   exact coatC_re uy.rt (ha (.inr h6))
  ·rw [decide_eq_false h6,cond_false]
   have r := den_re (leafW hnd h5 h6 hv hu (Int.le_refl _) (by decide)) hv hu
   exact ⟨r.er,r.rt,(by decide:rt Ch.zero.m = true)⟩
theorem da_re {v u:V3} (hv:Wd v) (hu:Wd u) {cs:List SV} {len:Nat} (K:OkPg cs len):∀ i,i < len → Er (daF NdR u.z (lfR (dnG4 GmR) v u) cs i) ∧ Rc (chF (allF NdR u.z (lfR (dnG4 GmR) v u) cs) i) := by
 intro i
 induction i using Nat.strongRecOn with
 | _ i ih =>
   intro hi
   have hnd := K.nd i hi
   have g:∀ {a:Int},0 ≤ a → a < i → daL NdR u.z (lfR (dnG4 GmR) v u) cs i a.toNat = chF (allF NdR u.z (lfR (dnG4 GmR) v u) cs) a.toNat := fun _ _ => chL_get _ (by omega)
   have M:∀ {a:Int},0 ≤ a → a < i → Rc (daL NdR u.z (lfR (dnG4 GmR) v u) cs i a.toNat) := fun a0 a1 => by
    rw [g a0 a1]
    exact (ih _ (by omega) (by omega)).2
   have R := nodC_re hv hu hnd (l := daL NdR u.z (lfR (dnG4 GmR) v u) cs i) (fun h56 => M (h56.elim (fun h5 => (okNd_mix hnd h5).1.1) fun h6 => (okNd_coat hnd h6).1) (h56.elim (fun h5 => (okNd_mix hnd h5).1.2) fun h6 => (okNd_coat hnd h6).2)) (fun h5 => M (okNd_mix hnd h5).2.1 (okNd_mix hnd h5).2.2)
   refine ⟨?_,R.rt⟩
   unfold daF nodE
   by_cases h6:(ndR cs (i * 19)).k = 6
   ·rw [decide_eq_true h6,cond_true]
    obtain ⟨y,hy,_⟩ := fd_all hu.z (bn_of (okNd_coatf hnd h6).1)
    have e2:(NdR.D u.z ⟨(ndR cs (i * 19)).f 14,(ndR cs (i * 19)).f 14⟩).2 = 0 := congrArg Prod.snd hy
    rw [decide_eq_true e2,cond_true]
    exact R.er
   ·rw [decide_eq_false h6,cond_false]
    exact R.er
theorem daE_er {v u:V3} (hv:Wd v) (hu:Wd u) {cs:List SV} {len:Nat} (K:OkPg cs len):∀ j,j ≤ len → Er (daE NdR u.z (lfR (dnG4 GmR) v u) cs j)
 | 0,_ => .inl rfl
 | j + 1, h => by
   have e:daE NdR u.z (lfR (dnG4 GmR) v u) cs (j + 1) = bif decide (daE NdR u.z (lfR (dnG4 GmR) v u) cs j = 0) then daF NdR u.z (lfR (dnG4 GmR) v u) cs j else daE NdR u.z (lfR (dnG4 GmR) v u) cs j := rfl
   rw [e]
   cases decide (daE NdR u.z (lfR (dnG4 GmR) v u) cs j = 0)
   ·exact daE_er hv hu K j (by omega)
   ·exact (da_re hv hu K j (by omega)).1
theorem div_re {e:Int} {a b:I} (he:Er e) (ha:rt a = true) (hb:rt b = true):RE (KkR.div e a b) := by
 by_cases e0:e = 0
 ·subst e0
  have h := line_re (l := [.div 1 0]) (v := [b,a]) (rts2 hb ha) ⟨trivial,fun _ _ _ => trivial⟩ 0
  have er:Er (evalK KkR [.div 1 0] [b,a] 0).2 := eval_er (rts2 hb ha) ⟨trivial,fun _ _ _ => trivial⟩
  have ev:evalK KkR [.div 1 0] [b,a] 0 = ([(KkR.div 0 a b).1,b,a],(KkR.div 0 a b).2) := rfl
  refine ⟨by rw [ev] at er; exact er,?_⟩
  by_cases g:(cDiv pDiv 0 a b).2 = 0
  ·exact AllR.rt (div_0 g).2.2.2.2.2
  ·show rt (cDiv pDiv 0 a b).1 = true
   unfold cDiv at g ⊢
   rw [ask_zz g]; exact zero_rt
 ·have e1:KkR.div e a b = (I.zero,e) := ask_kept e0 _ _
  rw [e1]; exact ⟨he,zero_rt⟩
theorem wgOkF_er {cs:List SV} {len:Nat} (K:OkPg cs len) {x y z a b c:F} (hx:unB x y z = true) (hz:z64.k < z.k) (ha:unB a b c = true) (hc:z64.k < c.k) (m:Bool) :
  Er (wgOkF WgN cs len x y z a b c m).e ∧ ((wgOkF WgN cs len x y z a b c m).e ≠ 0 → wgOkF WgN cs len x y z a b c m = wgZr (wgOkF WgN cs len x y z a b c m).e) ∧ ObsOk (wgOf WgN cs len x y z a b c) ∨ cs.length ≠ len * 19 ∨ okPg cs len = false := by
 by_cases hl:cs.length = len * 19
 ·cases hok:okPg cs len
  ·exact .inr (.inr rfl)
  left
  have wv:Wd (unV KkR a b c) := ⟨(un_in hc).1,(un_in hc).2.1,(un_in hc).2.2⟩
  have wu:Wd (unV KkR x y z) := ⟨(un_in hz).1,(un_in hz).2.1,(un_in hz).2.2⟩
  have e1:Er (wgEe WgN cs len x y z a b c) := evE_er wv wu K len (Nat.le_refl _)
  have e2:Er (wgDe WgN cs len x y z a b c) := daE_er wv wu K len (Nat.le_refl _)
  have hlo := K.lo
  have rl:∀ j,j < 3 → Rc (wgL WgN cs len x y z a b c j) := fun j hj => by
   show Rc (eeC NeR (unV KkR a b c) (unV KkR x y z) cs len j)
   unfold eeC
   cases decide (evE NeR (unV KkR a b c) (unV KkR x y z) cs len = 0)
   ·exact ⟨(by decide +kernel:rt zCh.p = true),(by decide +kernel:rt zCh.m = true)⟩
   ·exact (ev_re wv wu K (len - 1) (by omega)).2 j hj
  have rx:Rc (wgC WgN cs len x y z a b c) := by
   show Rc (daC NdR (unV KkR x y z).z (lfR (dnG4 GmR) (unV KkR a b c) (unV KkR x y z)) cs len)
   unfold daC
   cases decide (daE NdR (unV KkR x y z).z (lfR (dnG4 GmR) (unV KkR a b c) (unV KkR x y z)) cs len = 0)
   ·exact ⟨(by decide +kernel:rt zCh.p = true),(by decide +kernel:rt zCh.m = true)⟩
   ·exact (da_re wv wu K (len - 1) (by omega)).2
  have iz:rt (wgV WgN a b c).z = true := by
   show rt (bif unB a b c then unV KkR a b c else V3.zero).z = true
   rw [ha]; exact inb_rt1 wv.z
  have ct:∀ j,j < 3 → Er (wgK WgN cs len x y z a b c m j).2 := fun j hj => by
   have r := rl j hj
   unfold wgK
   cases m
   ·have p := mul_re (.inl rfl:Er 0) r.p iz
    exact (div_re p.er p.rt rx.p).er
   ·exact (div_re (.inl rfl:Er 0) r.m rx.m).er
  have zr:∀ e:Int,(wgZr e).e = e := fun _ => rfl
  refine ⟨?_,?_,?_⟩
  ·unfold wgOkF wgCo
   cases decide (wgEe WgN cs len x y z a b c = 0)
   ·exact e1
   ·cases decide (wgDe WgN cs len x y z a b c = 0)
    ·exact e2
    ·cases decide ((wgK WgN cs len x y z a b c m 0).2 = 0)
     ·exact ct 0 (by omega)
     ·cases decide ((wgK WgN cs len x y z a b c m 1).2 = 0)
      ·exact ct 1 (by omega)
      ·cases decide ((wgK WgN cs len x y z a b c m 2).2 = 0)
       ·exact ct 2 (by omega)
       ·exact .inl rfl
  ·unfold wgOkF wgCo
   cases decide (wgEe WgN cs len x y z a b c = 0)
   ·exact fun _ => rfl
   ·cases decide (wgDe WgN cs len x y z a b c = 0)
    ·exact fun _ => rfl
    ·cases decide ((wgK WgN cs len x y z a b c m 0).2 = 0)
     ·exact fun _ => rfl
     ·cases decide ((wgK WgN cs len x y z a b c m 1).2 = 0)
      ·exact fun _ => rfl
      ·cases decide ((wgK WgN cs len x y z a b c m 2).2 = 0)
       ·exact fun _ => rfl
       ·exact fun h => absurd rfl h
  ·have oz:ObsOk (zzO WgN.ub a b c x y z) := ob_c (decide_eq_false (Int.not_le.2 hz)) (ob_c (decide_eq_false (Int.not_le.2 hc)) (ob_c hx (ob_c ha ob_n)))
   have oE:ObsOk (eeO WgN.E WgN.un WgN.ub cs len a b c x y z) := ob_a (ob_c (decide_eq_true hl) (ob_c hok (ob_c (evPs_w K wv wu) (ob_a wu.dir wv.dir)))) (ob_a oz (ob_c hok ob_n))
   have oD:ObsOk (deO WgN.D WgN.un WgN.ub cs len a b c x y z) := ob_a (ob_c (decide_eq_true hl) (ob_c hok (ob_c (daPs_w K wv wu) (ob_a wu.dir wv.dir)))) (ob_a oz (ob_c hok ob_n))
   unfold wgOf
   refine ob_a oE ?_
   cases decide (wgEe WgN cs len x y z a b c = 0)
   ·exact ob_n
   ·exact oD
 ·exact .inr (.inl hl)
set_option maxRecDepth 100000 in
theorem pi_dv:one64.k ≤ PIc.lo.k ∧ PIc.lo.k ≤ PIc.hi.k := by decide +kernel
set_option maxRecDepth 100000 in
theorem lb_dq (a:I):lbK KkR a = ([(KkR.div 0 a PIc).1,PIc,a],(KkR.div 0 a PIc).2) := rfl
theorem lb_dv {a:I} (h:Uz1 a):∃ r,lnR (lbK KkR a) 0 = (r,0) ∧ KkR.div 0 a PIc = (r,0) ∧ rt r = true ∧ ∀ x,Mem a x → Mem r (x / PIc.lo.q) := by
 obtain ⟨m,e,l,_⟩ := box_lb
 have b := box (v := [a]) (w := [bz1]) m ⟨h.box,trivial⟩ e
 have b1:(lbK KkR a).2 = 0 := b.1
 have d:(KkR.div 0 a PIc).2 = 0 := by rw [lb_dq] at b1; exact b1
 have e1:gt (lbK KkR a).1 0 = (KkR.div 0 a PIc).1 := by rw [lb_dq]; rfl
 refine ⟨(KkR.div 0 a PIc).1,by rw [lnR_0 b1,e1],Prod.ext rfl d,by rw [← e1]; exact (b.2 0).rt,fun x hx => ?_⟩
 obtain ⟨_,_,f⟩ := step_fact (o := .div 0 1) (v := [a,PIc]) (e := 0) d
 have f2:Fact (.div 0 1) [a,PIc] (KkR.div 0 a PIc).1 := f
 exact p_div f2 hx ⟨Rat.le_refl,q_le.2 pi_dv.2⟩
theorem div_fc {a b r:I} (h:KkR.div 0 a b = (r,0)):Fact (.div 0 1) [a,b] r := by
 have st:(stepK KkR (.div 0 1) [a,b] 0).2 = 0 := by show (KkR.div 0 a b).2 = 0; rw [h]
 have f := (step_fact st).2.2
 rwa [show (stepK KkR (.div 0 1) [a,b] 0).1 = r from by show (KkR.div 0 a b).1 = r; rw [h]] at f
theorem div_pt {a b r:I} {x y:Rat} (h:KkR.div 0 a b = (r,0)) (hx:Mem a x) (hy:Mem b y):Mem r (x / y) := p_div (div_fc h) hx hy
def bWp:I := gt (evalK KkR lbV [bzz] 0).1 0
def bWm:I := gt (evalK KkR [.mul 1 0] [bzz,bz1] 0).1 0
set_option maxRecDepth 100000 in
theorem wa_bx:(evalK KkR lbV [bzz] 0).2 = 0 ∧ (evalK KkR [.mul 1 0] [bzz,bz1] 0).2 = 0 ∧ (evalK KkR [.div 1 0] [bWp,bWm] 0).2 = 0 ∧ (evalK KkR [.mul 1 0] [PIc,bz1] 0).2 = 0 := by decide +kernel
theorem PI_in:InB PIc PIc := ⟨Int.le_refl _,Int.le_refl _,by decide +kernel⟩
theorem wa_q {f z:I} (hf:InB f bz1) (hz:InB z bzz) (hz1:Uz1 z) (zp:0 < z.lo.q):∃ P M a g,KkR.div 0 z PIc = (P,0) ∧ KkR.mul 0 f z = (M,0) ∧ KkR.div 0 M P = (a,0) ∧ KkR.mul 0 f PIc = (g,0) ∧ meetsB a g = true := by
 obtain ⟨c1,c2,c3,c4⟩ := wa_bx
 have m1:([.div 1 0]:List Bu.Op).all monoB = true := rfl
 have m2:([.mul 1 0]:List Bu.Op).all monoB = true := rfl
 have b1 := box (v := [z]) (w := [bzz]) (l := lbV) box_lb.1 ⟨hz,trivial⟩ c1
 have b2 := box (v := [z,f]) (w := [bzz,bz1]) m2 ⟨hz,hf,trivial⟩ c2
 have b4 := box (v := [PIc,f]) (w := [PIc,bz1]) m2 ⟨PI_in,hf,trivial⟩ c4
 have eP:evalK KkR lbV [z] 0 = ([(KkR.div 0 z PIc).1,PIc,z],(KkR.div 0 z PIc).2) := rfl
 have eM:evalK KkR [.mul 1 0] [z,f] 0 = ([(KkR.mul 0 f z).1,z,f],(KkR.mul 0 f z).2) := rfl
 have eG:evalK KkR [.mul 1 0] [PIc,f] 0 = ([(KkR.mul 0 f PIc).1,PIc,f],(KkR.mul 0 f PIc).2) := rfl
 have iP:InB (KkR.div 0 z PIc).1 bWp := by have := (b1.2 0).inB; rw [eP] at this; exact this
 have iM:InB (KkR.mul 0 f z).1 bWm := by have := (b2.2 0).inB; rw [eM] at this; exact this
 have b3 := box (v := [(KkR.div 0 z PIc).1,(KkR.mul 0 f z).1]) (w := [bWp,bWm]) m1 ⟨iP,iM,trivial⟩ c3
 have eA:evalK KkR [.div 1 0] [(KkR.div 0 z PIc).1,(KkR.mul 0 f z).1] 0 = ([(KkR.div 0 (KkR.mul 0 f z).1 (KkR.div 0 z PIc).1).1,(KkR.div 0 z PIc).1,(KkR.mul 0 f z).1],(KkR.div 0 (KkR.mul 0 f z).1 (KkR.div 0 z PIc).1).2) := rfl
 have e1:(KkR.div 0 z PIc).2 = 0 := by have := b1.1; rw [eP] at this; exact this
 have e2:(KkR.mul 0 f z).2 = 0 := by have := b2.1; rw [eM] at this; exact this
 have e3:(KkR.div 0 (KkR.mul 0 f z).1 (KkR.div 0 z PIc).1).2 = 0 := by have := b3.1; rw [eA] at this; exact this
 have e4:(KkR.mul 0 f PIc).2 = 0 := by have := b4.1; rw [eG] at this; exact this
 clear b1 b2 b3 b4 eP eM eG eA
 have h1:KkR.div 0 z PIc = ((KkR.div 0 z PIc).1,0) := Prod.ext rfl e1
 have h2:KkR.mul 0 f z = ((KkR.mul 0 f z).1,0) := Prod.ext rfl e2
 have h3:KkR.div 0 (KkR.mul 0 f z).1 (KkR.div 0 z PIc).1 = ((KkR.div 0 (KkR.mul 0 f z).1 (KkR.div 0 z PIc).1).1,0) := Prod.ext rfl e3
 have h4:KkR.mul 0 f PIc = ((KkR.mul 0 f PIc).1,0) := Prod.ext rfl e4
 refine ⟨_,_,_,_,h1,h2,h3,h4,?_⟩
 have fl:Mem f f.lo.q := ⟨Rat.le_refl,q_le.2 hf.2.2⟩
 have zl:Mem z z.lo.q := ⟨Rat.le_refl,q_le.2 hz.2.2⟩
 obtain ⟨p1,p2,p3,p4⟩ := pi_bd
 have pl:Mem PIc PIc.lo.q := ⟨Rat.le_refl,p3⟩
 have k := div_pt h3 (mul_pt h2 fl zl) (div_pt h1 zl pl)
 have g := mul_pt h4 fl pl
 have e:f.lo.q * z.lo.q / (z.lo.q / PIc.lo.q) = f.lo.q * PIc.lo.q := by
  have ew:z.lo.q / PIc.lo.q * PIc.lo.q = z.lo.q := Rat.div_mul_cancel (by grind)
  have w0:z.lo.q / PIc.lo.q ≠ 0 := fun h => by rw [h] at ew; grind
  have et:f.lo.q * z.lo.q / (z.lo.q / PIc.lo.q) * (z.lo.q / PIc.lo.q) = f.lo.q * z.lo.q := Rat.div_mul_cancel w0
  generalize f.lo.q * z.lo.q / (z.lo.q / PIc.lo.q) = s at *
  generalize z.lo.q / PIc.lo.q = w at *
  have:(s - f.lo.q * PIc.lo.q) * w = 0 := by grind
  rcases Rat.mul_eq_zero.1 this with h | h
  ·grind
  ·exact absurd h w0
 rw [e] at k
 unfold meetsB
 rw [decide_eq_true (q_le.1 (Rat.le_trans k.lo g.hi)),decide_eq_true (q_le.1 (Rat.le_trans g.lo k.hi))]; rfl
theorem one_ev {v u:V3} {cs:List SV} {n:Nd} (hn:ndR cs (0 * 19) = n) (h5:n.k ≠ 5) (h6:n.k ≠ 6) {A:Nat → I} (hA:∀ k,k < 3 → NeR.g (lfE v u k n) = (A k,0)):evE NeR v u cs 1 = 0 ∧ ∀ k,k < 3 → eeC NeR v u cs 1 k = ⟨A k,I.zero⟩ := by
 have ev:∀ (k:Nat) (l:Nat → Ch),k < 3 → evN NeR v u k l n = (⟨A k,I.zero⟩,0) := fun k l hk => by
  unfold evN
  rw [decide_eq_false h5,decide_eq_false h6,cond_false,cond_false,hA k hk]
 have e0:evE NeR v u cs 1 = 0 := by
  refine evE_z fun i hi => ?_
  obtain rfl:i = 0 := by omega
  show evEr NeR v u (evL NeR v u cs 0) (ndR cs (0 * 19)) = 0
  rw [hn]
  unfold evEr
  rw [decide_eq_false h6,cond_false,ev 0 _ (by omega),ev 1 _ (by omega),ev 2 _ (by omega)]; rfl
 refine ⟨e0,fun k hk => ?_⟩
 unfold eeC
 rw [e0,decide_eq_true rfl,cond_true]
 show (evN NeR v u k _ (ndR cs (0 * 19))).1 = _
 rw [hn,ev k _ hk]
theorem one_da {cos:I} {lf:Nd → I × Int} {cs:List SV} {n:Nd} {d:I} (hn:ndR cs (0 * 19) = n) (h5:n.k ≠ 5) (h6:n.k ≠ 6) (hd:lf n = (d,0)):daE NdR cos lf cs 1 = 0 ∧ daC NdR cos lf cs 1 = ⟨d,Ch.zero.m⟩ := by
 have e0:daE NdR cos lf cs 1 = 0 := by
  refine daE_z fun i hi => ?_
  obtain rfl:i = 0 := by omega
  show nodE NdR cos lf (daL NdR cos lf cs 0) (ndR cs (0 * 19)) = 0
  rw [hn]
  unfold nodE nodC
  rw [decide_eq_false h6,cond_false,decide_eq_false h5,cond_false,cond_false,hd]
 refine ⟨e0,?_⟩
 unfold daC
 rw [e0,decide_eq_true rfl,cond_true]
 exact chF_leaf hn h5 h6 hd
theorem rt3_Fm {p q r:F}:rt3W p.b q.b r.b = true := by
 unfold rt3W
 rw [right_F,right_F,right_F]; rfl
theorem wgt_F {pc:List SV} {n:Nat} {k:Int} {a b c:F} (p q r:F):WtR.g pc n a b c k p.b q.b r.b = wgF WgN pc n a b c k p q r := by
 show (bif rt3W p.b q.b r.b then wgF WgN pc n a b c k (toF p.b) (toF q.b) (toF r.b) else wtZ a b c k) = _
 rw [rt3_Fm,cond_true,toF_F,toF_F,toF_F]
theorem wgo_F {pc:List SV} {n:Nat} {k:Int} {a b c:F} (hl:pc.length = n * 19) (hok:okPg pc n = true) {p q r:F} (h:ObsOk (bif unB a b c && ((!(k == 0)) && (wgIs WgN a b c k p q r true || wgIs WgN a b c k p q r false)) then wgOf WgN pc n a b c p q r else [])):ObsOk (WtR.o pc n a b c k p.b q.b r.b) := by
 refine ob_c (decide_eq_true hl) (ob_c hok ?_)
 rw [rt3_Fm,cond_true,toF_F,toF_F,toF_F]
 exact ob_c (decide_eq_true hl) (ob_c hok h)
theorem one_wg {cs:List SV} {n:Nd} (hl:cs.length = 1 * 19) (hok:okPg cs 1 = true) (hn:ndR cs (0 * 19) = n) (h5:n.k ≠ 5) (h6:n.k ≠ 6) {x y z a b c:F} (hx:unB x y z = true) (hz:z64.k < z.k) (ha:unB a b c = true) (hc:z64.k < c.k) {A M w:Nat → I} {d:I}
  (hA:∀ k,k < 3 → NeR.g (lfE (unV KkR a b c) (unV KkR x y z) k n) = (A k,0)) (hd:lfR (dnG4 GmR) (unV KkR a b c) (unV KkR x y z) n = (d,0)) (hM:∀ k,k < 3 → KkR.mul 0 (A k) (unV KkR a b c).z = (M k,0)) (hw:∀ k,k < 3 → KkR.div 0 (M k) d = (w k,0)) :
  (WtR.g cs 1 x y z 2 a.b b.b c.b).e = 0 ∧ (WtR.g cs 1 x y z 2 a.b b.b c.b).x = ⟨d,Ch.zero.m⟩ ∧ (∀ k,k < 3 → (WtR.g cs 1 x y z 2 a.b b.b c.b).w k = w k) ∧ ObsOk (WtR.o cs 1 x y z 2 a.b b.b c.b) ∧ ObsOk (eeO WgN.E WgN.un WgN.ub cs 1 a b c x y z) ∧ ObsOk (deO WgN.D WgN.un WgN.ub cs 1 a b c x y z) := by
 obtain ⟨e1,e2⟩ := one_ev hn h5 h6 hA
 obtain ⟨d1,d2⟩ := one_da (cos := (unV KkR x y z).z) hn h5 h6 hd
 have K := okPg_ok hok
 have hO:ObsOk (wgOf WgN cs 1 x y z a b c) := by
  rcases wgOkF_er K hx hz ha hc false with h | h | h
  ·exact h.2.2
  ·exact absurd hl h
  ·rw [hok] at h; cases h
 have e1':wgEe WgN cs 1 x y z a b c = 0 := e1
 have d1':wgDe WgN cs 1 x y z a b c = 0 := d1
 have iE:wgE WgN a b c = 0 := by
  show (bif unB a b c then 0 else 50) = (0:Int)
  rw [ha,cond_true]
 have iV:(wgV WgN a b c).z = (unV KkR a b c).z := by
  show (bif unB a b c then unV KkR a b c else V3.zero).z = _
  rw [ha,cond_true]
 have is1:wgIs WgN x y z 2 a b c true = false := rfl
 have is2:wgIs WgN x y z 2 a b c false = true := by
  show ((2:Int) == 2 && (wgE WgN a b c == 0 && (decide ((toF 0).k < c.k) && decide ((toF 0).k < z.k)))) = true
  rw [iE,decide_eq_true (show (toF 0).k < c.k from hc),decide_eq_true (show (toF 0).k < z.k from hz)]; rfl
 have hK:∀ k,k < 3 → wgK WgN cs 1 x y z a b c false k = (w k,0) := fun k hk => by
  unfold wgK
  rw [iV]
  have a1:(wgL WgN cs 1 x y z a b c k).p = A k := by
   show (eeC NeR (unV KkR a b c) (unV KkR x y z) cs 1 k).p = A k
   rw [e2 k hk]
  have a2:(wgC WgN cs 1 x y z a b c).p = d := by
   show (daC NdR (unV KkR x y z).z (lfR (dnG4 GmR) (unV KkR a b c) (unV KkR x y z)) cs 1).p = d
   rw [d2]
  show KkR.div (KkR.mul 0 (wgL WgN cs 1 x y z a b c k).p (unV KkR a b c).z).2 (KkR.mul 0 (wgL WgN cs 1 x y z a b c k).p (unV KkR a b c).z).1 (wgC WgN cs 1 x y z a b c).p = (w k,0)
  rw [a1,a2,hM k hk]
  exact hw k hk
 have hF:wgF WgN cs 1 x y z 2 a b c = ⟨fun j => (wgK WgN cs 1 x y z a b c false j).1,wgC WgN cs 1 x y z a b c,0⟩ := by
  unfold wgF
  rw [show WgN.ub x y z = true from hx,cond_true,show ((2:Int) == 0) = false from rfl,cond_false,is1,cond_false,is2,cond_true]
  unfold wgOkF
  rw [e1',d1']
  unfold wgCo
  rw [hK 0 (by omega),hK 1 (by omega),hK 2 (by omega)]; rfl
 refine ⟨by rw [wgt_F,hF],?_,fun k hk => ?_,?_,?_⟩
 ·rw [wgt_F,hF]
  show daC NdR (unV KkR x y z).z (lfR (dnG4 GmR) (unV KkR a b c) (unV KkR x y z)) cs 1 = _
  exact d2
 ·rw [wgt_F,hF]
  show (wgK WgN cs 1 x y z a b c false k).1 = w k
  rw [hK k hk]
 ·refine wgo_F hl hok ?_
  rw [hx,is1,is2]
  exact hO
 ·unfold wgOf at hO
  rw [e1'] at hO
  exact ⟨hO.left,hO.right⟩
end Go.Proofs.YtejcekikbnlllaaGreat
