/- weigh.Weigh: of anything drawn. weigh.Weigh: the known function of anything drawn. .. -/
import Derived.Test.YthclipfgcgoofaaGreatS15
import Derived.Test.YthclipfgcgoofaaGreatS14
import Derived.Test.YthclipfgcgoofaaGreatS10
import Derived.Test.YthclipfgcgoofaaGreatS13
import Derived.Test.YthclipfgcgoofaaGreatS12
import Derived.Test.YthclipfgcgoofaaGreatS11
set_option linter.all false
namespace Go.Proofs.YthclipfgcgoofaaGreat
open Go.RowKit Bu Rx
noncomputable def WgN:Nwg := ⟨KkR,okPg,unV KkR,unB,EvR,CeR⟩
theorem oracleWg:OracleOk Tryz.prog (OWg WgN) :=
 .cons (show RdOk Tryz.prog 39 (kRgt okPg) from rgtG).of <| .cons unNG.of <| .cons stG.of <| .cons eeK.of <| .cons deK.of <| oracleCL
def OWw (o:List SV → Nat → Bool) (un:F → F → F → V3) (ub:F → F → F → Bool):OracleF := lookO [(39,kRd 19 (kRgt o)),(16,eiO (plainO kUw) (plainO (kUnN un ub))),(59,plainO (kSt ub))]
noncomputable def wwRun (o:List SV → Nat → Bool) (un:F → F → F → V3) (ub:F → F → F → Bool) (e:TypeId) (cells:List SV) (off len cap:Nat) (x y z:F) (k:Int) (a b c:Nat) (r:R8) (d:List Bool) :=
 ((run Tryz.prog EG (OWw o un ub) 80).1 31 [.ssl 0 off len cap,.agg [.fl x,.fl y,.fl z],.agg ([.si .u8 k,.f a,.f b,.f c] ++ r.l)] [⟨e,cells,.num⟩] (some d)).map (fun q => (q.1,q.2.1.take 1,q.2.2))
def wwO (a b c:Nat):Obs := [(Nat.blt a 18446744073709551616,true),(Nat.blt b 18446744073709551616,true),(Nat.blt c 18446744073709551616,true),(rt3W a b c,false)]
def wwE (ub:F → F → F → Bool) (x y z:F):Int := bif ub x y z then 0 else 50
section
variable (o:List SV → Nat → Bool) (un:F → F → F → V3) (ub:F → F → F → Bool) (e:TypeId) (cells:List SV) (off len cap:Nat) (x y z:F) (k:Int) (a b c:Nat) (r:R8)
def wwH (o:List SV → Nat → Bool) (ub:F → F → F → Bool) (cs:List SV) (len:Nat) (x y z:F) (a b c:Nat):Obs := (ub x y z,true) :: (wwO a b c ++ ((wwE ub x y z != 0,false) :: [(o cs len,true)]))
theorem wwR_u:wwRun o un ub e cells off len cap x y z k a b c r [true] = some (wgZ (.i .i64 50),[⟨e,cells,.num⟩],some [],(wwE ub x y z != 0,true) :: [(o (cutC cells off len) len,true)]) := by unfold wwRun; kernel_rfl
theorem wwR_fail:wwRun o un ub e cells off len cap x y z k a b c r [false,true,true] = some (wgZ (.i .i64 0),[⟨e,cells,.num⟩],some [],(k == 0,true) :: (k == 0,true) :: wwH o ub (cutC cells off len) len x y z a b c) := by unfold wwRun; kernel_rfl
theorem wwR_m:wwRun o un ub e cells off len cap x y z k a b c r [false,false,true] = some (wgZ (.i .i64 230),[⟨e,cells,.num⟩],some [],(k == 1,true) :: (k == 0,false) :: wwH o ub (cutC cells off len) len x y z a b c) := by unfold wwRun; kernel_rfl
theorem wwR_d:wwRun o un ub e cells off len cap x y z k a b c r [false,false,false,true] = some (wgZ (.i .i64 230),[⟨e,cells,.num⟩],some [],(k == 2,true) :: (k == 1,false) :: (k == 0,false) :: wwH o ub (cutC cells off len) len x y z a b c) := by unfold wwRun; kernel_rfl
theorem wwR_o:wwRun o un ub e cells off len cap x y z k a b c r [false,false,false,false] = some (wgZ (.i .i64 230),[⟨e,cells,.num⟩],some [],(k == 2,false) :: (k == 1,false) :: (k == 0,false) :: wwH o ub (cutC cells off len) len x y z a b c) := by unfold wwRun; kernel_rfl
theorem wgNil:valR ((run Tryz.prog EG (lookO [(39,plainO kNilR)]) 60).1 31 [.o (.slice none 0 0),.agg [.fl x,.fl y,.fl z],.agg ([.si .u8 k,.f a,.f b,.f c] ++ r.l)] [] (some [])) = some (wgZ (.i .i64 210),some [],[]) := by kernel_rfl
end
def fW:SV → Option Nat
 | .f w => some w
 | .fl x => some x.b
 | _ => none
theorem fW_pl {s:SV} {w:Nat} (h:fW s = some w):plain s = some (.float .f64 w) := by
 unfold fW at h
 split at h
 ·cases h; rfl
 ·cases h; rfl
 ·cases h
structure Nwt where
 g:List SV → Nat → F → F → F → Int → Nat → Nat → Nat → WgR
 o:List SV → Nat → F → F → F → Int → Nat → Nat → Nat → Obs
def wtZ (x y z:F) (k:Int):WgR := bif unB x y z then bif k == 0 then wgZr 0 else wgZr 230 else wgZr 50
noncomputable def WtR:Nwt := ⟨fun cs len x y z k a b c => bif rt3W a b c then wgF WgN cs len x y z k (toF a) (toF b) (toF c) else wtZ x y z k,
 fun cs len x y z k a b c => (decide (cs.length = len * 19),true) :: (okPg cs len,true) :: (bif rt3W a b c then wgOb WgN cs len x y z k (toF a) (toF b) (toF c) else [(Nat.blt a 18446744073709551616,true),(Nat.blt b 18446744073709551616,true),(Nat.blt c 18446744073709551616,true)])⟩
def kWgA (T:Nwt):RdF := fun cs len l ds => match l with
 | [.agg [.fl x, .fl y, .fl z], .agg [kk, wa, wb, wc, b0, b1, b2, b3, b4, b5, nn, .b _]] => match intS kk, fW wa, fW wb, fW wc, fW b0, fW b1, fW b2, fW b3, fW b4, fW b5, intS nn with
   | some (.u8,k),some a,some b,some c,some _,some _,some _,some _,some _,some _,some (.i64,_) => some (wgSvR (T.g cs len x y z k a b c),ds,T.o cs len x y z k a b c)
   | _,_,_,_,_,_,_,_,_,_,_ => none
 | _ => none
theorem wgSv_pl (r:WgR):plain (wgSvR r) = some (wgVal r) := rfl
theorem oracleWw:OracleOk Tryz.prog (OWw okPg (unV KkR) unB) := .cons (show RdOk Tryz.prog 39 (kRgt okPg) from rgtG).of (.cons (eiO_ok unWG.of unNG.of) (.cons stG.of (.nil _)))
theorem rt3_ex {x y z:Nat} (h:rt3W x y z = true):∃ a b c:F,x = a.b ∧ y = b.b ∧ z = c.b := by
 unfold rt3W at h
 rw [Bool.and_eq_true,Bool.and_eq_true] at h
 obtain ⟨a,ha⟩ := F_of_right h.1.1
 obtain ⟨b,hb⟩ := F_of_right h.1.2
 obtain ⟨c,hc⟩ := F_of_right h.2
 exact ⟨a,b,c,ha.symm,hb.symm,hc.symm⟩
set_option maxRecDepth 20000 in
theorem wgAG:RdOk Tryz.prog 31 (kWgA WtR) := by
 intro cs len l ds r0 ds' ob h ho
 unfold kWgA at h
 split at h
 ·rename_i x y z kk wa wb wc b0 b1 b2 b3 b4 b5 nn s
  split at h
  ·rename_i k a b c r1 r2 r3 r4 r5 r6 n ek ea eb ec e0 e1 e2 e3 e4 e5 en
   simp only [Option.some.injEq,Prod.mk.injEq] at h
   obtain ⟨rfl,_,rfl⟩ := h
   have hpl:plains [.agg [.fl x,.fl y,.fl z],.agg [kk,wa,wb,wc,b0,b1,b2,b3,b4,b5,nn,.b s]] = some [.agg #[.float .f64 x.b,.float .f64 y.b,.float .f64 z.b],.agg #[.int .u8 k,.float .f64 a,.float .f64 b,.float .f64 c,.float .f64 r1,.float .f64 r2,.float .f64 r3,.float .f64 r4,.float .f64 r5,.float .f64 r6,.int .i64 n,.bool s]] :=
    plains_cons rfl (plains_cons (plain_agg (plains_cons (intS_plain ek) (plains_cons (fW_pl ea) (plains_cons (fW_pl eb) (plains_cons (fW_pl ec) (plains_cons (fW_pl e0) (plains_cons (fW_pl e1) (plains_cons (fW_pl e2) (plains_cons (fW_pl e3) (plains_cons (fW_pl e4) (plains_cons (fW_pl e5) (plains_cons (intS_plain en) (plains_cons rfl plains_nil))))))))))))) plains_nil)
   have ho':ObsOk ((decide (cs.length = len * 19),true) :: (okPg cs len,true) :: (bif rt3W a b c then wgOb WgN cs len x y z k (toF a) (toF b) (toF c) else [(Nat.blt a 18446744073709551616,true),(Nat.blt b 18446744073709551616,true),(Nat.blt c 18446744073709551616,true)])) := ho
   obtain ⟨h1,ho'⟩ := ob_h2 ho'
   obtain ⟨h2,ho'⟩ := ob_h2 ho'
   have hl:cs.length = len * 19 := of_decide_eq_true h1
   obtain ⟨vc,hc⟩ := (okPg_ok h2).pl
   have hE:WtR.g cs len x y z k a b c = bif rt3W a b c then wgF WgN cs len x y z k (toF a) (toF b) (toF c) else wtZ x y z k := rfl
   rw [hE]
   cases g:rt3W a b c
   ·rw [cond_false]
    rw [g,cond_false] at ho'
    obtain ⟨ha,ho'⟩ := ob_h2 ho'
    obtain ⟨hb,ho'⟩ := ob_h2 ho'
    obtain ⟨hcc,_⟩ := ob_h2 ho'
    refine ⟨vc,_,_,hc,hpl,wgSv_pl _,fun w q off cap hw => ?_⟩
    have fin:∀ {d:List Bool} {res:SV} (hx:plain res = some (wgVal (wtZ x y z k))) (hr:∀ (e:TypeId) (cells:List SV) (off cap:Nat),CellsAt cells off cs → ∃ ob,wwRun okPg (unV KkR) unB e cells off len cap x y z k a b c ⟨r1,r2,r3,r4,r5,r6,n,s⟩ d = some (res,[⟨e,cells,.num⟩],some [],ob) ∧ ObsOk ob),
      Calls Tryz.prog 31 (Value.slice (some ⟨q,off,none⟩) len cap :: [.agg #[.float .f64 x.b,.float .f64 y.b,.float .f64 z.b],.agg #[.int .u8 k,.float .f64 a,.float .f64 b,.float .f64 c,.float .f64 r1,.float .f64 r2,.float .f64 r3,.float .f64 r4,.float .f64 r5,.float .f64 r6,.int .i64 n,.bool s]]).toArray w fun e w' => e = .returned (wgVal (wtZ x y z k)) ∧ Below w.heap.size w w' := by
     intro d res hx hr
     refine rd_of_runT goodG oracleWw 80 (l := [.agg [.fl x,.fl y,.fl z],.agg ([.si .u8 k,.f a,.f b,.f c] ++ R8.l ⟨r1,r2,r3,r4,r5,r6,n,s⟩)]) hc rfl hx (fun e cells off cap hca => ?_) w q off cap hw
     obtain ⟨ob,h3,h4⟩ := hr e cells off cap hca
     exact ⟨_,_,ob,h3,h4⟩
    generalize hR:wtZ x y z k = R at fin ⊢
    unfold wtZ at hR
    cases g0:unB x y z
    ·rw [g0,cond_false] at hR; subst hR
     exact fin (res := wgZ (.i .i64 50)) rfl fun e cells off cap hca => ⟨_,by have hr := wwR_u okPg (unV KkR) unB e cells off len cap x y z k a b c ⟨r1,r2,r3,r4,r5,r6,n,s⟩; rw [cut_at hca hl] at hr; exact hr,ob_c (by unfold wwE; rw [g0]; rfl) (ob_c h2 ob_n)⟩
    ·rw [g0,cond_true] at hR
     have oH:ObsOk (wwH okPg unB cs len x y z a b c) := ob_c g0 (ob_a (ob_c ha (ob_c hb (ob_c hcc (ob_c g ob_n)))) (ob_c (by unfold wwE; rw [g0]; rfl) (ob_c h2 ob_n)))
     cases gk:(k == 0)
     ·rw [gk,cond_false] at hR; subst hR
      cases k1:(k == 1)
      ·cases k2:(k == 2)
       ·exact fin (res := wgZ (.i .i64 230)) rfl fun e cells off cap hca => ⟨_,by have hr := wwR_o okPg (unV KkR) unB e cells off len cap x y z k a b c ⟨r1,r2,r3,r4,r5,r6,n,s⟩; rw [cut_at hca hl] at hr; exact hr,ob_c k2 (ob_c k1 (ob_c gk oH))⟩
       ·exact fin (res := wgZ (.i .i64 230)) rfl fun e cells off cap hca => ⟨_,by have hr := wwR_d okPg (unV KkR) unB e cells off len cap x y z k a b c ⟨r1,r2,r3,r4,r5,r6,n,s⟩; rw [cut_at hca hl] at hr; exact hr,ob_c k2 (ob_c k1 (ob_c gk oH))⟩
      ·exact fin (res := wgZ (.i .i64 230)) rfl fun e cells off cap hca => ⟨_,by have hr := wwR_m okPg (unV KkR) unB e cells off len cap x y z k a b c ⟨r1,r2,r3,r4,r5,r6,n,s⟩; rw [cut_at hca hl] at hr; exact hr,ob_c k1 (ob_c gk oH)⟩
     ·rw [gk,cond_true] at hR; subst hR
      exact fin (res := wgZ (.i .i64 0)) rfl fun e cells off cap hca => ⟨_,by have hr := wwR_fail okPg (unV KkR) unB e cells off len cap x y z k a b c ⟨r1,r2,r3,r4,r5,r6,n,s⟩; rw [cut_at hca hl] at hr; exact hr,ob_c gk (ob_c gk oH)⟩
   ·rw [cond_true]
    rw [g,cond_true] at ho'
    obtain ⟨p,q,t,rfl,rfl,rfl⟩ := rt3_ex g
    rw [toF_F,toF_F,toF_F] at ho' ⊢
    obtain ⟨vc',h3,h4⟩ := wg_all (r := ⟨r1,r2,r3,r4,r5,r6,n,s⟩) oracleWg rfl ho' (vs := [.agg #[.float .f64 x.b,.float .f64 y.b,.float .f64 z.b],.agg #[.int .u8 k,.float .f64 p.b,.float .f64 q.b,.float .f64 t.b,.float .f64 r1,.float .f64 r2,.float .f64 r3,.float .f64 r4,.float .f64 r5,.float .f64 r6,.int .i64 n,.bool s]]) rfl
    exact ⟨vc',_,_,h3,hpl,wgSv_pl _,h4⟩
  ·cases h
 ·cases h
def kWgNil:List SV → Dec → Option (SV × Dec × Obs)
 | [.o (.slice none 0 0), .agg [.fl _, .fl _, .fl _], .agg [kk, wa, wb, wc, b0, b1, b2, b3, b4, b5, nn, .b _]], ds => match intS kk, fW wa, fW wb, fW wc, fW b0, fW b1, fW b2, fW b3, fW b4, fW b5, intS nn with
   | some (.u8,_),some _,some _,some _,some _,some _,some _,some _,some _,some _,some (.i64,_) => some (wgZ (.i .i64 210),ds,[])
   | _,_,_,_,_,_,_,_,_,_,_ => none
 | _,_ => none
set_option maxRecDepth 20000 in
theorem wgNilG:PlainOk Tryz.prog 31 kWgNil := by
 intro args ds r0 ds' ob h ho
 unfold kWgNil at h
 split at h
 ·rename_i x y z kk wa wb wc b0 b1 b2 b3 b4 b5 nn s
  split at h
  ·rename_i k a b c r1 r2 r3 r4 r5 r6 n ek ea eb ec e0 e1 e2 e3 e4 e5 en
   simp only [Option.some.injEq,Prod.mk.injEq] at h
   obtain ⟨rfl,_,rfl⟩ := h
   refine ⟨[.slice none 0 0,.agg #[.float .f64 x.b,.float .f64 y.b,.float .f64 z.b],.agg #[.int .u8 k,.float .f64 a,.float .f64 b,.float .f64 c,.float .f64 r1,.float .f64 r2,.float .f64 r3,.float .f64 r4,.float .f64 r5,.float .f64 r6,.int .i64 n,.bool s]],wgVal (wgZr 210),?_,rfl,fun w => ?_⟩
   ·exact plains_cons rfl (plains_cons rfl (plains_cons (plain_agg (plains_cons (intS_plain ek) (plains_cons (fW_pl ea) (plains_cons (fW_pl eb) (plains_cons (fW_pl ec) (plains_cons (fW_pl e0) (plains_cons (fW_pl e1) (plains_cons (fW_pl e2) (plains_cons (fW_pl e3) (plains_cons (fW_pl e4) (plains_cons (fW_pl e5) (plains_cons (intS_plain en) (plains_cons rfl plains_nil))))))))))))) plains_nil))
   ·exact calls_of_val goodG (.cons nilRG.of (.nil _)) 60 (wgNil x y z k a b c ⟨r1,r2,r3,r4,r5,r6,n,s⟩) ob_n rfl rfl w
  ·cases h
 ·cases h
def wgA_O (T:Nwt):OF := eiO (plainO kWgNil) (kRd 19 (kWgA T))
theorem wgA_OG:OfOk Tryz.prog 31 (wgA_O WtR) := eiO_ok wgNilG.of wgAG.of
def blw (a:Nat):Bool × Bool := (Nat.blt a 18446744073709551616,true)
theorem blw_ok {a:Nat} (h:a < 18446744073709551616):(blw a).1 = (blw a).2 := by
 show Nat.blt a 18446744073709551616 = true
 rw [Nat.blt_eq]; exact h
def kUnT (f:Nat → Nat → Nat → V3) (e:Nat → Nat → Nat → Int):List SV → Dec → Option (SV × Dec × Obs)
 | [.agg [.f x,.f y,.f z]],ds => some (.tup [(f x y z).sv,.si .i64 (e x y z)],ds,[blw x,blw y,blw z])
 | _,_ => none
def un3W (x y z:Nat):Bool := rt3W x y z && unB (toF x) (toF y) (toF z)
noncomputable def uwV (x y z:Nat):V3 := bif un3W x y z then unV KkR (toF x) (toF y) (toF z) else V3.zero
def uwE (x y z:Nat):Int := bif un3W x y z then 0 else 50
theorem rt3_of {x y z:Nat} (h:rt3W x y z = true):∃ a b c:F,x = a.b ∧ y = b.b ∧ z = c.b := by
 unfold rt3W at h
 rw [Bool.and_eq_true,Bool.and_eq_true] at h
 obtain ⟨a,ha⟩ := F_of_right h.1.1
 obtain ⟨b,hb⟩ := F_of_right h.1.2
 obtain ⟨c,hc⟩ := F_of_right h.2
 exact ⟨a,b,c,ha.symm,hb.symm,hc.symm⟩
theorem rt3_F (a b c:F):rt3W a.b b.b c.b = true := by unfold rt3W; rw [right_F,right_F,right_F]; rfl
def v3V (v:V3):Value := .agg #[.float .f64 v.x.lo.b,.float .f64 v.x.hi.b,.float .f64 v.y.lo.b,.float .f64 v.y.hi.b,.float .f64 v.z.lo.b,.float .f64 v.z.hi.b]
theorem unTG:PlainOk Tryz.prog 16 (kUnT uwV uwE) := by
 intro args ds r ds' ob h ho
 unfold kUnT at h
 split at h
 ·rename_i x y z
  simp only [Option.some.injEq,Prod.mk.injEq] at h
  obtain ⟨rfl,_,rfl⟩ := h
  have hx:blw x ∈ [blw x,blw y,blw z] := List.mem_cons_self ..
  have hy:blw y ∈ [blw x,blw y,blw z] := List.mem_cons_of_mem _ (List.mem_cons_self ..)
  have hz:blw z ∈ [blw x,blw y,blw z] := List.mem_cons_of_mem _ (List.mem_cons_of_mem _ (List.mem_cons_self ..))
  refine ⟨[.agg #[.float .f64 x,.float .f64 y,.float .f64 z]],.tuple #[v3V (uwV x y z),.int .i64 (uwE x y z)],rfl,rfl,?_⟩
  cases g:rt3W x y z
  ·have e:un3W x y z = false := by unfold un3W; rw [g]; rfl
   have e1:uwV x y z = V3.zero := by unfold uwV; rw [e,cond_false]
   have e2:uwE x y z = 50 := by unfold uwE; rw [e,cond_false]
   rw [e1,e2]
   obtain ⟨vs,v,h1,h2,h3⟩ := unWG [.agg [.f x,.f y,.f z]] none _ _ _ rfl (ob_c (ho _ hx) (ob_c (ho _ hy) (ob_c (ho _ hz) (ob_c g ob_n))))
   obtain rfl:vs = [.agg #[.float .f64 x,.float .f64 y,.float .f64 z]] := (Option.some.inj h1).symm
   obtain rfl:v = .tuple #[v3V V3.zero,.int .i64 50] := (Option.some.inj h2).symm
   exact h3
  ·obtain ⟨a,b,c,rfl,rfl,rfl⟩ := rt3_of g
   obtain ⟨vs,v,h1,h2,h3⟩ := unG [.agg [.fl a,.fl b,.fl c]] none _ _ _ rfl ob_n
   obtain rfl:vs = [.agg #[.float .f64 a.b,.float .f64 b.b,.float .f64 c.b]] := (Option.some.inj h1).symm
   have e1:uwV a.b b.b c.b = bif unB a b c then unV KkR a b c else V3.zero := by unfold uwV un3W; rw [g,Bool.true_and,toF_F,toF_F,toF_F]
   have e2:uwE a.b b.b c.b = bif unB a b c then 0 else 50 := by unfold uwE un3W; rw [g,Bool.true_and,toF_F,toF_F,toF_F]
   rw [e1,e2]
   cases q:unB a b c
   ·rw [q] at h2
    obtain rfl:v = .tuple #[v3V V3.zero,.int .i64 50] := (Option.some.inj h2).symm
    exact h3
   ·rw [q] at h2
    obtain rfl:v = .tuple #[v3V (unV KkR a b c),.int .i64 0] := (Option.some.inj h2).symm
    exact h3
 ·cases h
end Go.Proofs.YthclipfgcgoofaaGreat
namespace Bu
open Rx Go
theorem CellsAt.left {a b cs:List SV} {off:Nat} (h:CellsAt a off cs):CellsAt (a ++ b) off cs := fun j x hx => by
 have := h j x hx
 rw [List.getElem?_append_left (List.getElem?_eq_some_iff.1 this).1]; exact this
theorem CellsAt.right (a b:List SV):CellsAt (a ++ b) a.length b := fun j x hx => by
 rw [List.getElem?_append_right (by omega),show a.length + j - a.length = j by omega]; exact hx
theorem nd_of {cells cs:List SV} {off:Nat} (h:CellsAt cells off cs) (hk:ckAll cs 0 ndCK = true):ckAll cells off ndCK = true ∧ ndR cells off = ndR cs 0 := by
 obtain ⟨a,b⟩ := at_row h hk
 rw [Nat.add_zero] at a b
 refine ⟨b,?_⟩
 have e := nd_row cells off
 rw [a,nd_row cs 0] at e
 exact (Option.some.inj e).symm
end Bu
namespace Go.Proofs.YthclipfgcgoofaaGreat
open Go.RowKit Bu Rx
def rowP (N:Npr) (U:Nat → U8):Nat → List SV
 | 0 => nzC (N.k (U 0)) (N.f (U 0))
 | j + 1 => rowN N (U (j + 1)) (j + 1)
theorem prgC_row (N:Npr) (U:Nat → U8):∀ {k j:Nat},j ≤ k → CellsAt (prgC N U k) (j * 19) (rowP N U j)
 | 0, j, h => by
   obtain rfl:j = 0 := by omega
   intro i x hx
   rw [Nat.zero_mul,Nat.zero_add]; exact hx
 | k + 1, j, h => by
   rcases Nat.lt_or_ge j (k + 1) with h1 | h1
   ·exact CellsAt.left (prgC_row N U (k := k) (j := j) (by omega))
   ·obtain rfl:j = k + 1 := by omega
    have := CellsAt.right (prgC N U k) (rowN N (U (k + 1)) (k + 1))
    rw [prgC_len] at this
    exact this
theorem rowP_ck (N:Npr) (U:Nat → U8):∀ j,ckAll (rowP N U j) 0 ndCK = true
 | 0 => rfl
 | j + 1 => by
   show ckAll (rowN N (U (j + 1)) (j + 1)) 0 ndCK = true
   unfold rowN
   cases decide (prT (U (j + 1)) = 0)
   ·cases decide (prT (U (j + 1)) = 1) || decide (prT (U (j + 1)) = 2) <;> rfl
   ·rfl
theorem rowP_pl (N:Npr) (U:Nat → U8):∀ j,∃ vs,plains (rowP N U j) = some vs
 | 0 => ⟨_,rfl⟩
 | j + 1 => by
   show ∃ vs,plains (rowN N (U (j + 1)) (j + 1)) = some vs
   unfold rowN
   cases decide (prT (U (j + 1)) = 0)
   ·cases decide (prT (U (j + 1)) = 1) || decide (prT (U (j + 1)) = 2) <;> exact ⟨_,rfl⟩
   ·exact ⟨_,rfl⟩
theorem prgC_pl (N:Npr) (U:Nat → U8):∀ k,∃ vs,plains (prgC N U k) = some vs
 | 0 => rowP_pl N U 0
 | k + 1 => by
   obtain ⟨a,ha⟩ := prgC_pl N U k
   obtain ⟨b,hb⟩ := rowP_pl N U (k + 1)
   exact ⟨a ++ b,plains_app ha hb⟩
theorem tmod_in {a:Int} {n:Nat} (ha:0 ≤ a) (h1:1 ≤ n) (h8:n ≤ 8):0 ≤ IntKind.i64.wrap (a.tmod (IntKind.u32.wrap (n:Int))) ∧ IntKind.i64.wrap (a.tmod (IntKind.u32.wrap (n:Int))) < n := by
 rw [u32_small h8,Int.tmod_eq_emod_of_nonneg ha,IntKind.wrap_i64]
 have h2 := Int.emod_nonneg a (show (n:Int) ≠ 0 by omega)
 have h3 := Int.emod_lt_of_pos a (show 0 < (n:Int) by omega)
 omega
theorem w32_nn {n:Int} (h:wN32 n = true):0 ≤ n := (of_decide_eq_true h).1
theorem nd_co (n t0 t1 t2:F) (a:Int):ndR (coC n t0 t1 t2 a) 0 = ⟨6,ndM z64 z64 z64 t0 t1 t2 z64 z64 z64 z64 z64 z64 z64 z64 n z64,a,0⟩ := by kernel_rfl
theorem nd_mx (w:F) (a b:Int):ndR (mxC w a b) 0 = ⟨5,ndM z64 z64 z64 z64 z64 z64 z64 z64 z64 z64 z64 z64 z64 z64 z64 w,a,b⟩ := by kernel_rfl
theorem nd_lf (u:U8):ndR (nzC (leK u) (leF bwF u)) 0 = leNd u := by kernel_rfl
theorem okNd_row {u:U8} {n:Nat} (hu:prgB NprR u = true) (h1:1 ≤ n) (h8:n ≤ 8):okNd (ndR (rowN NprR u n) 0) n = true := by
 unfold prgB at hu
 simp only [Bool.and_eq_true] at hu
 obtain ⟨o,w3,w4,w5,w6⟩ := hu
 have ok:u.ok = true := o
 unfold U8.ok at ok
 simp only [Bool.and_eq_true] at ok
 obtain ⟨_,a1,a2,_⟩ := ok
 have m1 := tmod_in (w32_nn a1) h1 h8
 have m2 := tmod_in (w32_nn a2) h1 h8
 unfold rowN
 cases decide (prT u = 0)
 ·cases decide (prT u = 1) || decide (prT u = 2)
  ·show okNd (ndR (coC (bwF minIo four64 u.a3) (frT u.a4) (frT u.a5) (frT u.a6) (prA u n)) 0) n = true
   rw [nd_co]
   exact okNd_6 (bw_rn rk_le.2.2.1) (fr_rn w4) (fr_rn w5) (fr_rn w6) m1.1 m1.2
  ·show okNd (ndR (mxC (frT u.a3) (prA u n) (prB u n)) 0) n = true
   rw [nd_mx]
   exact okNd_5 (fr_rn w3) m1.1 m1.2 m2.1 m2.2
 ·show okNd (ndR (nzC (leK u) (leF bwF u)) 0) n = true
  rw [nd_lf]
  exact okNd_le u n
theorem okPg_prg {U:Nat → U8} {k:Nat} (hk:k ≤ 8) (hU:∀ j,j ≤ k → prgB NprR (U j) = true):okPg (prgC NprR U k) (k + 1) = true := by
 obtain ⟨vs,hv⟩ := prgC_pl NprR U k
 refine okPg_mk (by rw [hv]; rfl) (by omega) (by omega) fun i hi => ?_
 obtain ⟨c1,c2⟩ := nd_of (prgC_row NprR U (k := k) (j := i) (by omega)) (rowP_ck NprR U i)
 refine okAt_n c1 c2 ?_
 cases i with
 | zero =>
   show okNd (ndR (nzC (leK (U 0)) (leF bwF (U 0))) 0) _ = true
   rw [nd_lf]
   exact okNd_le _ _
 | succ i => exact okNd_row (hU (i + 1) (by omega)) (by omega) (by omega)
theorem u8Z_B:prgB NprR u8Z = true := by decide +kernel
theorem prog_ok {cs:List SV} {len:Nat} (h:prInB NprR cs len = true):okPg (prgC NprR (prU cs len) (prK len)) (prK len + 1) = true ∧ prK len ≤ 7 := by
 have K := prInB_ok h
 have h7:prK len ≤ 7 := by
  rcases Nat.eq_zero_or_pos len with h0 | h0
  ·subst h0; rw [prK_0]; omega
  ·have := (prK_s h0).1; omega
 refine ⟨okPg_prg (by omega) fun j hj => ?_,h7⟩
 unfold prU
 cases len with
 | zero => exact u8Z_B
 | succ n =>
   have := (prK_s (len := n + 1) (by omega)).1
   exact K.ok j (by omega) (by omega)
def prgB_O (g:List SV → Nat → List SV) (b:List SV → Nat → Bool):OF := eiO (kPr g b) (kPz g)
structure Nww where
 N:Npr
 g:List SV → Nat → List SV
 b:List SV → Nat → Bool
 v:Nat → Nat → Nat → V3
 e:Nat → Nat → Nat → Int
 T:Nwt
def OWx (W:Nww):OracleF := lookO [(15,prgB_O W.g W.b),(49,plainO (kBw W.N.b W.N.p W.N.w)),(16,plainO (kUnT W.v W.e)),(31,wgA_O W.T),(37,plainO (oConst (.b true)))]
noncomputable def wwC:Code := bodyOf Tryz.prog 7
theorem wwBody:Tryz.f7.body = some wwC := by kernel_rfl
structure W9 where
 a:Int
 b:Int
 c:Int
 k:Int
 x:Nat
 y:Nat
 z:Nat
 r:R8
def W9.d (q:W9):List SV := [.si .u8 q.k,.f q.x,.f q.y,.f q.z,.f q.r.a,.f q.r.b,.f q.r.c,.f q.r.d,.f q.r.e,.f q.r.f,.si .i64 q.r.n,.b q.r.s]
def W9.u (q:W9):List SV := [.si .u32 q.a,.si .u32 q.b,.si .u32 q.c]
def W9.args (q:W9):List SV := [.agg q.u,.agg q.d]
noncomputable def wwA (el:TypeId) (z:Nat × Nat) (cells:List SV) (off len cap:Nat) (q:W9):St := ⟨(.ssl 0 off len cap :: q.args) ++ List.replicate (Tryz.f7.ntmps - 3) (.tup []),[⟨el,cells,.ro z⟩],none,[]⟩
noncomputable def wwZ (q:W9):St := ⟨(.o (.slice none 0 0) :: q.args) ++ List.replicate (Tryz.f7.ntmps - 3) (.tup []),[],none,[]⟩
def wwT (n:Nat) (x:Nat → SV):List SV :=
 [x 0,x 1,x 2,x 3,.p 0 0,.p 1 0,.b false,.osl true 2 n,.p 3 0,x 9,x 10,x 11,x 12,x 13,x 14,x 15,x 16,x 17,x 18,x 19,x 20,x 21,x 22,x 23,x 24,x 25,x 26,x 27,x 28,x 29,x 30,x 31,x 32,x 33,x 34,x 35,x 36,x 37,x 38,x 39,x 40,x 41,x 42,x 43,x 44,x 45,x 46,x 47,x 48,x 49,x 50,x 51,x 52,x 53,x 54,x 55,x 56,x 57,x 58,x 59,x 60,x 61,x 62,x 63,x 64,x 65,x 66,x 67,x 68,x 69,x 70,x 71,x 72,x 73,x 74,x 75,x 76,x 77,x 78,x 79,x 80,x 81,x 82,x 83,x 84,x 85,x 86,x 87,x 88,x 89,x 90,x 91,x 92,x 93,x 94,x 95,x 96,x 97,x 98,x 99,x 100,x 101,x 102,x 103,x 104,x 105,x 106,x 107,x 108,x 109,x 110,x 111,x 112,x 113,x 114,x 115,x 116,x 117,x 118,x 119,x 120,x 121,x 122,x 123,x 124,x 125,x 126,x 127,x 128,x 129,x 130,x 131,x 132,x 133,x 134,x 135,x 136,x 137,x 138,x 139,x 140,x 141,x 142,x 143,x 144,x 145,x 146,x 147,x 148,x 149,x 150,x 151,x 152,x 153,x 154,x 155,x 156]
def wwM (pc:List SV) (q:W9) (X Y Z:F):List Blk := [⟨65,q.u,.ex⟩,⟨38,q.d,.ex⟩,⟨69,pc,.rown 19⟩,⟨25,[.fl X,.fl Y,.fl Z],.ex⟩]
def wwS (pc:List SV) (n:Nat) (q:W9) (X Y Z:F) (x:Nat → SV) (d:Dec):St := ⟨wwT n x,wwM pc q X Y Z,d,[]⟩
noncomputable abbrev wwA2 (W:Nww) (el:TypeId) (z:Nat × Nat) (cells:List SV) (off len cap:Nat) (q:W9):St := aftN Tryz.prog EG (OWx W) 60 2 wwC (wwA el z cells off len cap q)
noncomputable abbrev wwZ2 (W:Nww) (q:W9):St := aftN Tryz.prog EG (OWx W) 60 2 wwC (wwZ q)
theorem wwLa (W:Nww) (el:TypeId) (z:Nat × Nat) (cells:List SV) (off len cap:Nat) (q:W9):LandsN Tryz.prog EG (OWx W) 60 2 wwC (wwA el z cells off len cap q) := by unfold LandsN; kernel_rfl
theorem wwLz (W:Nww) (q:W9):LandsN Tryz.prog EG (OWx W) 60 2 wwC (wwZ q) := by unfold LandsN; kernel_rfl
def wwX (W:Nww) (q:W9):F := W.N.b mone64 one64 q.a
def wwY (W:Nww) (q:W9):F := W.N.b mone64 one64 q.b
def wwZz (W:Nww) (q:W9):F := W.N.b d64 one64 q.c
section
variable (W:Nww) (el:TypeId) (z:Nat × Nat) (cells:List SV) (off len cap:Nat) (q:W9)
theorem wwOa:(wwA2 W el z cells off len cap q).ob = dirU W.N q.a q.b q.c ++ [(decide (len ≤ cap),true),(W.b ((cells.drop off).take (len * 8)) len,true)] := by kernel_rfl
theorem wwOz:(wwZ2 W q).ob = dirU W.N q.a q.b q.c := by kernel_rfl
theorem wwRa:∃ rest,(wwA2 W el z cells off len cap q).M = [⟨el,cells,.ro z⟩] ++ rest := ⟨wwM (W.g ((cells.drop off).take (len * 8)) len) q (wwX W q) (wwY W q) (wwZz W q),by kernel_rfl⟩
theorem wwMa:selM (wwA2 W el z cells off len cap q).M [1,2,3,4] = some (wwM (W.g ((cells.drop off).take (len * 8)) len) q (wwX W q) (wwY W q) (wwZz W q)) := by kernel_rfl
theorem wwMz:selM (wwZ2 W q).M [0,1,2,3] = some (wwM (W.g [] 0) q (wwX W q) (wwY W q) (wwZz W q)) := by kernel_rfl
noncomputable def wwXa (v:Nat → Value):Nat → SV := fun j => ((wwA2 W el z cells off len cap q).sel [1,2,3,4] [] v).T.getD j .np
noncomputable def wwXz (v:Nat → Value):Nat → SV := fun j => ((wwZ2 W q).sel [0,1,2,3] [] v).T.getD j .np
theorem wwTa (v:Nat → Value) (M':List Blk):((wwA2 W el z cells off len cap q).sel [1,2,3,4] M' v).T = wwT (prK len + 1) (wwXa W el z cells off len cap q v) := by kernel_rfl
theorem wwTz (v:Nat → Value) (M':List Blk):((wwZ2 W q).sel [0,1,2,3] M' v).T = wwT 1 (wwXz W q v) := by kernel_rfl
end
inductive K7 where
 | f
 | m
 | n
 | d
 | u
 | h
 | o
def K7.ds:K7 → List Bool
 | .f => [true]
 | .m => [false,true,true]
 | .n => [false,true,false,false]
 | .d => [false,false,true,true,true]
 | .u => [false,false,true,false]
 | .h => [false,false,true,true,false]
 | .o => [false,false,false]
def K7.may:K7 → Bool
 | .f => true
 | .m => true
 | .d => true
 | _ => false
def eqW (a:Nat) (b:F):Bool := Ieee.double.order a b.b == some .eq
def gtW (a:Nat) (b:F):Bool := Ieee.double.order a b.b == some .gt
def eqW3 (q:W9) (X Y Z:F):Bool := eqW q.x X.neg && (eqW q.y Y.neg && (eqW q.z Z && true))
def k7O (q:W9) (e:Int) (X Y Z:F):K7 → Obs
 | .f => [(q.k == 0,true)]
 | .m => [(eqW3 q X Y Z,true),(q.k == 1,true),(q.k == 0,false)]
 | .n => [(q.k == 2,false),(eqW3 q X Y Z,false),(q.k == 1,true),(q.k == 0,false)]
 | .d => [(gtW q.z (toF 0),true),(e == 0,true),(q.k == 2,true),(q.k == 1,false),(q.k == 0,false)]
 | .u => [(e == 0,false),(q.k == 2,true),(q.k == 1,false),(q.k == 0,false)]
 | .h => [(gtW q.z (toF 0),false),(e == 0,true),(q.k == 2,true),(q.k == 1,false),(q.k == 0,false)]
 | .o => [(q.k == 2,false),(q.k == 1,false),(q.k == 0,false)]
def eqI3_ (a b:Nat → I):Bool := eqIv (a 0) (b 0) && (eqIv (a 1) (b 1) && (eqIv (a 2) (b 2) && true))
def eqCh_ (a b:Ch):Bool := eqIv a.p b.p && (eqIv a.m b.m && true)
def zI:Nat → I := fun _ => ⟨toF 0,toF 0⟩
def teD (d r:Bool):List Bool := [d,false,false,false,r] ++ (bif r then [false,false] else [])
def teO (A:WgR) (d r:Bool):Obs := (bif r then [(!eqCh_ A.x zCh,false),(!eqI3_ A.w zI,false)] else []) ++ [(A.e != 0,r),(!eqCh_ A.x A.x,false),(!eqI3_ A.w A.w,false),(A.e != A.e,false),(A.e == 230,d)]
section
variable (W:Nww) (pc:List SV) (n:Nat) (q:W9) (X Y Z:F) (x:Nat → SV)
def wwP (pc:List SV) (n:Nat):List SV := (pc.drop 0).take (n * 19)
def wwR (W:Nww) (pc:List SV) (n:Nat) (q:W9) (X Y Z:F):WgR := W.T.g (wwP pc n) n X Y Z q.k q.x q.y q.z
def wwRo (W:Nww) (pc:List SV) (n:Nat) (q:W9) (X Y Z:F):Obs := W.T.o (wwP pc n) n X Y Z q.k q.x q.y q.z
def m1F:F := toF 13830554455654793216
def wwHr (W:Nww) (pc:List SV) (n:Nat) (X Y Z:F):WgR := W.T.g (wwP pc n) n (toF 0) (toF 0) m1F 2 X.b Y.b Z.b
def wwHo (W:Nww) (pc:List SV) (n:Nat) (X Y Z:F):Obs := W.T.o (wwP pc n) n (toF 0) (toF 0) m1F 2 X.b Y.b Z.b
def wwOb (W:Nww) (pc:List SV) (n:Nat) (q:W9) (X Y Z:F) (k:K7) (r:Bool):Obs :=
 ((wwR W pc n q (toF 0) (toF 0) (toF 0)).e == 50,true) :: ((wwHr W pc n X Y Z).e == 230,true) :: (wwRo W pc n q (toF 0) (toF 0) (toF 0) ++ (wwHo W pc n X Y Z ++ (teO (wwR W pc n q X Y Z) (!k.may) r ++
   (wwRo W pc n q X Y Z ++ (wwRo W pc n q X Y Z ++ (k7O q (W.e q.x q.y q.z) X Y Z k ++ ((!decide (Y.k = 0),true) :: (!decide (X.k = 0),true) :: ([blw q.x,blw q.y,blw q.z] ++ []))))))))
def wwDs (k:K7) (r:Bool):List Bool := k.ds ++ (teD (!k.may) r ++ [true,true])
noncomputable abbrev wwRn (k:K7) (r:Bool):St := aft Tryz.prog EG (OWx W) 60 (post 2 wwC) (wwS pc n q X Y Z x (some (wwDs k r)))
theorem wwL_f_f:Lands Tryz.prog EG (OWx W) 60 (post 2 wwC) (wwS pc n q X Y Z x (some (wwDs .f false))) .ret := by unfold Lands; kernel_rfl
theorem wwO_f_f:(wwRn W pc n q X Y Z x .f false).ob = wwOb W pc n q X Y Z .f false := by kernel_rfl
theorem wwV_f_f:resultS Tryz.prog Tryz.f7 (wwRn W pc n q X Y Z x .f false) = some (.b true) := by kernel_rfl
theorem wwL_m_f:Lands Tryz.prog EG (OWx W) 60 (post 2 wwC) (wwS pc n q X Y Z x (some (wwDs .m false))) .ret := by unfold Lands; kernel_rfl
theorem wwO_m_f:(wwRn W pc n q X Y Z x .m false).ob = wwOb W pc n q X Y Z .m false := by kernel_rfl
theorem wwV_m_f:resultS Tryz.prog Tryz.f7 (wwRn W pc n q X Y Z x .m false) = some (.b true) := by kernel_rfl
theorem wwL_m_t:Lands Tryz.prog EG (OWx W) 60 (post 2 wwC) (wwS pc n q X Y Z x (some (wwDs .m true))) .ret := by unfold Lands; kernel_rfl
theorem wwO_m_t:(wwRn W pc n q X Y Z x .m true).ob = wwOb W pc n q X Y Z .m true := by kernel_rfl
theorem wwV_m_t:resultS Tryz.prog Tryz.f7 (wwRn W pc n q X Y Z x .m true) = some (.b true) := by kernel_rfl
theorem wwL_n_t:Lands Tryz.prog EG (OWx W) 60 (post 2 wwC) (wwS pc n q X Y Z x (some (wwDs .n true))) .ret := by unfold Lands; kernel_rfl
theorem wwO_n_t:(wwRn W pc n q X Y Z x .n true).ob = wwOb W pc n q X Y Z .n true := by kernel_rfl
theorem wwV_n_t:resultS Tryz.prog Tryz.f7 (wwRn W pc n q X Y Z x .n true) = some (.b true) := by kernel_rfl
theorem wwL_d_f:Lands Tryz.prog EG (OWx W) 60 (post 2 wwC) (wwS pc n q X Y Z x (some (wwDs .d false))) .ret := by unfold Lands; kernel_rfl
theorem wwO_d_f:(wwRn W pc n q X Y Z x .d false).ob = wwOb W pc n q X Y Z .d false := by kernel_rfl
theorem wwV_d_f:resultS Tryz.prog Tryz.f7 (wwRn W pc n q X Y Z x .d false) = some (.b true) := by kernel_rfl
theorem wwL_d_t:Lands Tryz.prog EG (OWx W) 60 (post 2 wwC) (wwS pc n q X Y Z x (some (wwDs .d true))) .ret := by unfold Lands; kernel_rfl
theorem wwO_d_t:(wwRn W pc n q X Y Z x .d true).ob = wwOb W pc n q X Y Z .d true := by kernel_rfl
theorem wwV_d_t:resultS Tryz.prog Tryz.f7 (wwRn W pc n q X Y Z x .d true) = some (.b true) := by kernel_rfl
theorem wwL_u_t:Lands Tryz.prog EG (OWx W) 60 (post 2 wwC) (wwS pc n q X Y Z x (some (wwDs .u true))) .ret := by unfold Lands; kernel_rfl
theorem wwO_u_t:(wwRn W pc n q X Y Z x .u true).ob = wwOb W pc n q X Y Z .u true := by kernel_rfl
theorem wwV_u_t:resultS Tryz.prog Tryz.f7 (wwRn W pc n q X Y Z x .u true) = some (.b true) := by kernel_rfl
theorem wwL_h_t:Lands Tryz.prog EG (OWx W) 60 (post 2 wwC) (wwS pc n q X Y Z x (some (wwDs .h true))) .ret := by unfold Lands; kernel_rfl
theorem wwO_h_t:(wwRn W pc n q X Y Z x .h true).ob = wwOb W pc n q X Y Z .h true := by kernel_rfl
theorem wwV_h_t:resultS Tryz.prog Tryz.f7 (wwRn W pc n q X Y Z x .h true) = some (.b true) := by kernel_rfl
theorem wwL_o_t:Lands Tryz.prog EG (OWx W) 60 (post 2 wwC) (wwS pc n q X Y Z x (some (wwDs .o true))) .ret := by unfold Lands; kernel_rfl
theorem wwO_o_t:(wwRn W pc n q X Y Z x .o true).ob = wwOb W pc n q X Y Z .o true := by kernel_rfl
theorem wwV_o_t:resultS Tryz.prog Tryz.f7 (wwRn W pc n q X Y Z x .o true) = some (.b true) := by kernel_rfl
end
def OA24 (T:Nwt):OracleF := lookO [(31,wgA_O T)]
def awD24:List Bool := List.replicate 12 true
noncomputable def aw24 (T:Nwt):Obs := match valR ((run Tryz.prog EG (OA24 T) 120).1 37 [] [] (some awD24)) with
 | some r => r.2.2
 | none => []
theorem aw24Run (T:Nwt):valR ((run Tryz.prog EG (OA24 T) 120).1 37 [] [] (some awD24)) = some (.b true,some [],aw24 T) := by kernel_rfl
set_option maxRecDepth 100000 in
theorem aw24_B:Bu.obsB (aw24 WtR) = true := by decide +kernel
theorem oracleA24:OracleOk Tryz.prog (OA24 WtR) := .cons wgA_OG (.nil _)
theorem awake24G:PlainOk Tryz.prog 37 (oConst (.b true)) := constG rfl fun w => calls_of_val goodG oracleA24 120 (aw24Run WtR) (obsB_ok aw24_B) rfl rfl w
end Go.Proofs.YthclipfgcgoofaaGreat
namespace Bu
open Rx Go
structure OvP (i o:I) (w:F) (a:Ch) (s h x y f q t z r:I):Prop where
 e1:KkR.sub 0 (pt one64) o = (s,0)
 e2:KkR.sub 0 (pt one64) i = (h,0)
 e3:KkR.mul 0 h s = (x,0)
 e4:KkR.mul 0 x (pt w) = (y,0)
 e5:KkR.mul 0 y a.p = (f,0)
 e6:KkR.sqr 0 s = (q,0)
 e7:KkR.mul 0 q (pt w) = (t,0)
 e8:KkR.mul 0 t a.m = (z,0)
 e9:KkR.add 0 o z = (r,0)
theorem OvP.eq {i o:I} {w:F} {a:Ch} {s h x y f q t z r:I} (k:OvP i o w a s h x y f q t z r):overC KkR i o w a = (⟨f,r⟩,0) := by
 unfold overC
 have n1:KkR.num 0 one_ = (pt one64,0) := rfl
 have n2:KkR.num 0 w = (pt w,0) := rfl
 simp only [n1,n2,k.e1,k.e2,k.e3,k.e4,k.e5,k.e6,k.e7,k.e8,k.e9]
end Bu
namespace Go.Proofs.YthclipfgcgoofaaGreat
open Go.RowKit Bu Rx
set_option maxRecDepth 100000 in
theorem bz1_B:byE bz1 bz1 = true ∧ (decide ((KTR.sqr 0 bz1).2 = 0) && inbB (KTR.sqr 0 bz1).1 bz1) = true := by decide +kernel
theorem sqr_in {x:I} (hx:InB x bz1):∃ r,KkR.sqr 0 x = (r,0) ∧ InB r bz1 := by
 have k := bz1_B.2
 rw [Bool.and_eq_true,decide_eq_true_eq] at k
 obtain ⟨r,e,n⟩ := sqr_inn hx.inn k.1
 exact ⟨r,e,inB_tr n.inB k.2⟩
end Go.Proofs.YthclipfgcgoofaaGreat
namespace Bu
open Rx Go
end Bu
namespace Go.Proofs.YthclipfgcgoofaaGreat
open Go.RowKit Bu Rx
end Go.Proofs.YthclipfgcgoofaaGreat
namespace Bu
open Rx Go Ieee
end Bu
namespace Go.Proofs.YthclipfgcgoofaaGreat
open Go.RowKit Bu Rx
end Go.Proofs.YthclipfgcgoofaaGreat
namespace Bu
open Rx Go
end Bu
namespace Go.Proofs.YthclipfgcgoofaaGreat
open Go.RowKit Bu Rx
theorem val3_eq (G:Gm) (K:Kk) (f:Nat → F) (c:Int) (v u:V3):vlG G K ⟨3,f,c,v,u⟩ = meP K G f v u := rfl
theorem val4_eq (G:Gm) (K:Kk) (f:Nat → F) (c:Int) (v u:V3):vlG G K ⟨4,f,c,v,u⟩ = meM K G f c.toNat v u := rfl
theorem gm_gl:GmR.gl = glR KkR GlR := by simp only [GmR]
theorem gm_dl:GmR.dl = fun c n => lnR (fdK KkR c n) 0 := by simp only [GmR]
theorem gm_cd:GmR.cd = fun c m n => lnR (fcK KkR c m n) 0 := by simp only [GmR]
theorem pF_rt (x:F):rt (pF x) = true := decide_eq_true (Int.le_refl _)
theorem val1_eq (G:Gm) (K:Kk) (f:Nat → F) (c:Int) (v u:V3):vlG G K ⟨1,f,c,v,u⟩ = meL G f c.toNat := rfl
theorem val2_eq (G:Gm) (K:Kk) (f:Nat → F) (c:Int) (v u:V3):vlG G K ⟨2,f,c,v,u⟩ = meO K G f c.toNat v u := rfl
theorem gm_lb:GmR.lb = fun r => lnR (lbK KkR r) 0 := by simp only [GmR]
theorem den1_eq (G:Gm) (f:Nat → F) (c:Int) (v u:V3):dnG4 G ⟨1,f,c,v,u⟩ = G.lb v.z := rfl
theorem den2_eq (G:Gm) (f:Nat → F) (c:Int) (v u:V3):dnG4 G ⟨2,f,c,v,u⟩ = G.lb v.z := rfl
theorem den3_eq (G:Gm) (f:Nat → F) (c:Int) (v u:V3):dnG4 G ⟨3,f,c,v,u⟩ = ((G.gl v u (pF (f 13))).1.d,(G.gl v u (pF (f 13))).2) := rfl
theorem den4_eq (G:Gm) (f:Nat → F) (c:Int) (v u:V3):dnG4 G ⟨4,f,c,v,u⟩ = ((G.gl v u (pF (f 13))).1.d,(G.gl v u (pF (f 13))).2) := rfl
end Go.Proofs.YthclipfgcgoofaaGreat
namespace Bu
open Rx Go
end Bu
namespace Go.Proofs.YthclipfgcgoofaaGreat
open Go.RowKit Bu Rx
structure RE (r:I × Int):Prop where
 er:Er r.2
 rt:rt r.1 = true
theorem condr:∀ {l:List Bu.Op} {v u:List I},(∀ a ∈ v,rt a = true) → CondE l v → Chain l v u → ∀ a ∈ u,rt a = true
 | [], v, u, hv, _, hc => by
   have e:u = v := hc
   subst e; exact hv
 | o :: l, v, u, hv, hc, hh => by
   obtain ⟨r,hr,hu⟩ := hh
   have h1 := fact_rt hv hc.1 hr
   exact condr (fun a ha => by
    rcases List.mem_cons.1 ha with rfl | ha
    ·exact h1
    ·exact hv a ha) (hc.2 r hr h1) hu
theorem line_re {l:List Bu.Op} {v:List I} (hv:∀ a ∈ v,rt a = true) (hc:CondE l v) (i:Nat):RE (lnR (evalK KkR l v 0) i) := by
 have he := eval_er hv hc
 unfold lnR
 cases g:neB (evalK KkR l v 0).2
 ·exact ⟨.inl rfl,gt_rt (condr hv hc (eval_chain (neB_0 g)).2) i⟩
 ·exact ⟨he,(by decide:rt I.zero = true)⟩
theorem line_rt {l:List Bu.Op} {v:List I} (hv:∀ a ∈ v,rt a = true) (hc:CondE l v) (h:(evalK KkR l v 0).2 = 0) (i:Nat):rt (gt (evalK KkR l v 0).1 i) = true := gt_rt (condr hv hc (eval_chain h).2) i
theorem no_fl {v:List I} (s:List Bool) (h:s.all (fun b => !b) = true):Flags s v := fun i hi => by
 exfalso
 rw [List.getD_eq_getElem?_getD] at hi
 cases k:s[i]? with
 | none => rw [k] at hi; cases hi
 | some b =>
   rw [k] at hi
   have hb:b = true := hi
   subst hb
   have := List.all_eq_true.1 h _ (List.mem_of_getElem? k)
   cases this
theorem rts6 {a b c d e f:I} (h1:rt a = true) (h2:rt b = true) (h3:rt c = true) (h4:rt d = true) (h5:rt e = true) (h6:rt f = true):∀ x ∈ [a,b,c,d,e,f],rt x = true := by
 intro x hx
 simp only [List.mem_cons,List.not_mem_nil,or_false] at hx
 rcases hx with rfl | rfl | rfl | rfl | rfl | rfl <;> assumption
theorem rts5 {a b c d e:I} (h1:rt a = true) (h2:rt b = true) (h3:rt c = true) (h4:rt d = true) (h5:rt e = true):∀ x ∈ [a,b,c,d,e],rt x = true := by
 intro x hx
 simp only [List.mem_cons,List.not_mem_nil,or_false] at hx
 rcases hx with rfl | rfl | rfl | rfl | rfl <;> assumption
theorem rts3 {a b c:I} (h1:rt a = true) (h2:rt b = true) (h3:rt c = true):∀ x ∈ [a,b,c],rt x = true := by
 intro x hx
 simp only [List.mem_cons,List.not_mem_nil,or_false] at hx
 rcases hx with rfl | rfl | rfl <;> assumption
theorem rts2 {a b:I} (h1:rt a = true) (h2:rt b = true):∀ x ∈ [a,b],rt x = true := by
 intro x hx
 simp only [List.mem_cons,List.not_mem_nil,or_false] at hx
 rcases hx with rfl | rfl <;> assumption
theorem rts1 {a:I} (h1:rt a = true):∀ x ∈ [a],rt x = true := by
 intro x hx
 rw [List.mem_singleton] at hx
 subst hx; exact h1
structure Wd (v:V3):Prop where
 x:In1 v.x
 y:In1 v.y
 z:InB v.z bz1
theorem in1_rt {a:I} (h:In1 a):rt a = true := decide_eq_true h.rt
theorem inb_rt1 {a b:I} (h:InB a b):rt a = true := decide_eq_true h.2.2
theorem Wd.six {v u:V3} (hv:Wd v) (hu:Wd u):∀ x ∈ [u.z,u.y,u.x,v.z,v.y,v.x],rt x = true := rts6 (inb_rt1 hu.z) (in1_rt hu.y) (in1_rt hu.x) (inb_rt1 hv.z) (in1_rt hv.y) (in1_rt hv.x)
theorem Wd.dir {v:V3} (h:Wd v):ObsOk (dirO v) :=
 ob_c (decide_eq_true h.z.2.1) (ob_c (decide_eq_true h.z.1) (ob_c (decide_eq_true h.y.hi) (ob_c (decide_eq_true h.y.lo) (ob_c (decide_eq_true h.x.hi) (ob_c (decide_eq_true h.x.lo) (ob_c (inb_rt1 h.z) (ob_c (in1_rt h.y) (ob_c (in1_rt h.x) ob_n))))))))
theorem f6 {v:List I}:Flags [false,false,false,false,false,false] v := no_fl _ rfl
theorem mi_c {v u:V3} (hv:Wd v) (hu:Wd u):CondE miH [u.z,u.y,u.x,v.z,v.y,v.x] := chk_cond (s := [false,false,false,false,false,false]) (by decide +kernel) f6 (hv.six hu)
theorem dt_c {v u:V3} (hv:Wd v) (hu:Wd u):CondE dtP [u.z,u.y,u.x,v.z,v.y,v.x] := chk_cond (s := [false,false,false,false,false,false]) (by decide +kernel) f6 (hv.six hu)
theorem lb_c {a:I} (h:rt a = true):CondE lbV [a] := chk_cond (s := [false]) (by decide +kernel) (no_fl _ rfl) (rts1 h)
theorem gd_c {a b:I} (h:rt a = true) (k:rt b = true):CondE ggD [a,b] := chk_cond (s := [false,false]) (by decide +kernel) (no_fl _ rfl) (rts2 h k)
theorem fc_c {a b c:I} (h:rt a = true) (k:rt b = true) (m:rt c = true):CondE frC [a,b,c] := chk_cond (s := [false,false,false]) (by decide +kernel) (no_fl _ rfl) (rts3 h k m)
theorem mv_c {a b c d e:I} (h1:rt a = true) (h2:rt b = true) (h3:rt c = true) (h4:rt d = true) (h5:rt e = true):CondE miV [a,b,c,d,e] := chk_cond (s := [false,false,false,false,false]) (by decide +kernel) (no_fl _ rfl) (rts5 h1 h2 h3 h4 h5)
theorem less_nn {c sq o s:I} (hc:InB c bz1) (hs:Up sq.hi ((bareI c).hi.q * (bareI c).hi.q)) (ho:o = ⟨one64,one64⟩) (h:Dn s.lo (o.lo.q - sq.hi.q)):0 ≤ s.lo.q := by
 have b := bare_ends (a := c) (inb_rt1 hc)
 have c0 := q_le.2 hc.1; have c1 := q_le.2 hc.2.1
 have z:(bz1.lo:F).q = 0 := by rw [show bz1.lo = F.zero from F.ext' (by decide +kernel)]; exact q_zero
 have e1:(bz1.hi:F).q = 1 := one_q
 rw [z] at c0
 rw [e1] at c1
 have hb:(bareI c).hi.q * (bareI c).hi.q ≤ 1 := by
  rcases b.2 with m | m
  ·have l := m.lo; have u := m.hi
   have := sq_bd (x := (bareI c).hi.q) (m := 1) (by grind) (by grind)
   grind
  ·have l := m.lo; have u := m.hi
   have := sq_bd (x := (bareI c).hi.q) (m := 1) (by grind) (by grind)
   grind
 have h1 := hs.bot one64 (by rw [one_q]; exact hb)
 rw [one_q] at h1
 subst ho
 refine dn_nn h ?_
 show 0 ≤ one64.q - sq.hi.q
 rw [one_q]; grind
theorem sq_nn1 {c sq:I} (h:Dn sq.lo ((bareI c).lo.q * (bareI c).lo.q)):0 ≤ sq.lo.q := dn_nn h (sq_nn _)
theorem fl_cons {b:Bool} {s:List Bool} {a:I} {v:List I} (h:b = true → 0 ≤ a.lo.q) (k:Flags s v):Flags (b :: s) (a :: v) := fun i hi => by
 cases i with
 | zero => exact h hi
 | succ i => exact k i hi
theorem fl_nil {v:List I}:Flags [] v := fun i hi => by
 rw [List.getD_eq_getElem?_getD] at hi
 simp at hi
def flO:List Bu.Op → List Bool → List Bool
 | [],s => s
 | o :: l,s => flO l (nnS o s :: s)
theorem chk_then {l2:List Bu.Op}:∀ {l1:List Bu.Op} {s:List Bool} {v:List I},chk l1 s = true → Flags s v → (∀ a ∈ v,rt a = true) →
  (∀ rs:List I,rs.length = l1.length → Flags (flO l1 s) (rs ++ v) → (∀ a ∈ rs ++ v,rt a = true) → CondE l2 (rs ++ v)) → CondE (l1 ++ l2) v
 | [],s,v,_,hf,hv,h => h [] rfl hf hv
 | o :: l, s, v, hc, hf, hv, h => by
   obtain ⟨h1,h2⟩ := both hc
   have ok := (chk_cond (l := [o]) (s := s) (by unfold chk; rw [h1]; rfl) hf hv).1
   refine ⟨ok,fun r hr rr => ?_⟩
   refine chk_then h2 (fl_cons (fun hn => fact_nn hv hf hr hn) hf) (fun a ha => by
    rcases List.mem_cons.1 ha with rfl | ha
    ·exact rr
    ·exact hv a ha) fun rs hl hF hR => ?_
   have e:rs ++ r :: v = (rs ++ [r]) ++ v := by rw [List.append_assoc]; rfl
   have := h (rs ++ [r]) (by rw [List.length_append,hl]; rfl)
   rw [← e] at this
   exact this hF hR
theorem cons_rt {a:I} {v:List I} (h:rt a = true) (k:∀ x ∈ v,rt x = true):∀ x ∈ a :: v,rt x = true := fun x hx => by
 rcases List.mem_cons.1 hx with rfl | hx
 ·exact h
 ·exact k x hx
theorem gg1_c {c al:I} (hc:InB c bz1) (ha:rt al = true):CondE gg1 [c,al] := by
 refine ⟨trivial,fun a2 f1 r1 => ⟨trivial,fun o1 f2 r2 => ⟨trivial,fun sq f3 r3 => ⟨trivial,fun o2 f4 r4 => ⟨trivial,fun s1 f5 r5 => ?_⟩⟩⟩⟩⟩
 have n5:0 ≤ s1.lo.q := less_nn hc f3.2 f4 f5.1
 exact chk_cond (s := [true,false,true,false,true]) (by decide +kernel) (fl_cons (fun _ => n5) (fl_cons (fun h => by cases h) (fl_cons (fun _ => sq_nn1 f3.1) (fl_cons (fun h => by cases h) (fl_cons (fun _ => sq_nn1 f1.1) fl_nil)))))
  (cons_rt r5 (cons_rt r4 (cons_rt r3 (cons_rt r2 (cons_rt r1 (rts2 (inb_rt1 hc) ha))))))
theorem len_s {n:Nat} {l:List I} (h:l.length = n + 1):∃ p k,l = p :: k ∧ k.length = n := by
 cases l with
 | nil => cases h
 | cons p k => exact ⟨p,k,rfl,Nat.succ.inj h⟩
theorem len11 {l:List I} (h:l.length = 11):∃ p1 p2 p3 p4 p5 p6 p7 p8 p9 p10 p11,l = [p1,p2,p3,p4,p5,p6,p7,p8,p9,p10,p11] := by
 obtain ⟨p1,l1,e1,h1⟩ := len_s h
 obtain ⟨p2,l2,e2,h2⟩ := len_s h1
 obtain ⟨p3,l3,e3,h3⟩ := len_s h2
 obtain ⟨p4,l4,e4,h4⟩ := len_s h3
 obtain ⟨p5,l5,e5,h5⟩ := len_s h4
 obtain ⟨p6,l6,e6,h6⟩ := len_s h5
 obtain ⟨p7,l7,e7,h7⟩ := len_s h6
 obtain ⟨p8,l8,e8,h8⟩ := len_s h7
 obtain ⟨p9,l9,e9,h9⟩ := len_s h8
 obtain ⟨p10,l10,e10,h10⟩ := len_s h9
 obtain ⟨p11,l11,e11,h11⟩ := len_s h10
 have e := List.eq_nil_of_length_eq_zero h11
 refine ⟨p1,p2,p3,p4,p5,p6,p7,p8,p9,p10,p11,?_⟩
 rw [e1,e2,e3,e4,e5,e6,e7,e8,e9,e10,e11,e]
theorem gg2_c {c d al:I} (hc:InB c bz1) (hd:InB d bz1) (ha:rt al = true):CondE gg2 [d,c,al] := by
 refine ⟨trivial,fun a2 f1 r1 => ⟨trivial,fun o1 f2 r2 => ⟨trivial,fun sq f3 r3 => ⟨trivial,fun o2 f4 r4 => ⟨trivial,fun s1 f5 r5 => ?_⟩⟩⟩⟩⟩
 have n5:0 ≤ s1.lo.q := less_nn hc f3.2 f4 f5.1
 have hh:gg2.drop 5 = (gg2.drop 5).take 11 ++ (gg2.drop 5).drop 11 := (List.take_append_drop 11 (gg2.drop 5)).symm
 suffices k:CondE ((gg2.drop 5).take 11 ++ (gg2.drop 5).drop 11) [s1,o2,sq,o1,a2,d,c,al] by
  rw [← hh] at k; exact k
 refine chk_then (s := [true,false,true,false,true]) (by kernel_rfl) (fl_cons (fun _ => n5) (fl_cons (fun h => by cases h) (fl_cons (fun _ => sq_nn1 f3.1) (fl_cons (fun h => by cases h) (fl_cons (fun _ => sq_nn1 f1.1) fl_nil)))))
  (cons_rt r5 (cons_rt r4 (cons_rt r3 (cons_rt r2 (cons_rt r1 (rts3 (inb_rt1 hd) (inb_rt1 hc) ha)))))) fun rs hl hF hR => ?_
 have hl':rs.length = 11 := hl.trans (by kernel_rfl)
 obtain ⟨p1,p2,p3,p4,p5,p6,p7,p8,p9,p10,p11,rfl⟩ := len11 hl'
 show CondE (gg2.drop 16) [p1,p2,p3,p4,p5,p6,p7,p8,p9,p10,p11,s1,o2,sq,o1,a2,d,c,al]
 refine ⟨trivial,fun sqd g1 q1 => ⟨trivial,fun o2d g2 q2 => ⟨trivial,fun s1d g3 q3 => ?_⟩⟩⟩
 have n3:0 ≤ s1d.lo.q := less_nn hd g1.2 g2 g3.1
 exact chk_cond (s := true :: false :: true :: flO ((gg2.drop 5).take 11) [true,false,true,false,true]) (by kernel_rfl) (fl_cons (fun _ => n3) (fl_cons (fun h => by cases h) (fl_cons (fun _ => sq_nn1 g1.1) hF)))
  (cons_rt q3 (cons_rt q2 (cons_rt q1 hR)))
end Go.Proofs.YthclipfgcgoofaaGreat
namespace Bu
open Rx Go
theorem ask_zz {e:Int} {g:Bool} {r:I × Int} (h:(askI e g r).2 ≠ 0):(askI e g r).1 = I.zero := by
 unfold askI at h ⊢
 cases h1:!(e == 0)
 ·rw [h1,cond_false] at h
  have he:e = 0 := by simpa using h1
  cases g
  ·rfl
  ·rw [cond_true] at h
   cases h2:!(r.2 == 0)
   ·rw [h2,cond_false] at h
    exact absurd he h
   ·rfl
 ·rfl
def uQ1 (x:F):I × Int := cSqr dMul 0 (pt x)
def uQ2 (x y:F):I × Int := cSqr dMul (uQ1 x).2 (pt y)
def uS1 (x y:F):I × Int := cAdd dAdd (uQ2 x y).2 (uQ1 x).1 (uQ2 x y).1
def uQ3 (x y z:F):I × Int := cSqr dMul (uS1 x y).2 (pt z)
def uS2 (x y z:F):I × Int := cAdd dAdd (uQ3 x y z).2 (uS1 x y).1 (uQ3 x y z).1
def uN (x y z:F):I × Int := cSqrt qSqrt (uS2 x y z).2 (uS2 x y z).1
def uD1 (x y z:F):I × Int := cDiv pDiv (uN x y z).2 (pt x) (uN x y z).1
def uD2 (x y z:F):I × Int := cDiv pDiv (uD1 x y z).2 (pt y) (uN x y z).1
def uD3 (x y z:F):I × Int := cDiv pDiv (uD2 x y z).2 (pt z) (uN x y z).1
theorem un_raw (x y z:F):unV KkR x y z = ⟨withI (uD1 x y z).1,withI (uD2 x y z).1,withI (uD3 x y z).1⟩ := by
 have hE:unE KkR x y z = ([withI (uD3 x y z).1,(uD3 x y z).1,withI (uD2 x y z).1,(uD2 x y z).1,withI (uD1 x y z).1,(uD1 x y z).1,(uN x y z).1,(uS2 x y z).1,(uQ3 x y z).1,(uS1 x y).1,(uQ2 x y).1,(uQ1 x).1,pt z,pt y,pt x],(uD3 x y z).2) := by
  unfold unE unP
  refine (eval_cons (r := pt x) (e' := 0) ?_).trans ?_
  ·exact rfl
  refine (eval_cons (r := pt y) (e' := 0) ?_).trans ?_
  ·exact rfl
  refine (eval_cons (r := pt z) (e' := 0) ?_).trans ?_
  ·exact rfl
  refine (eval_cons (r := (uQ1 x).1) (e' := (uQ1 x).2) ?_).trans ?_
  ·exact rfl
  refine (eval_cons (r := (uQ2 x y).1) (e' := (uQ2 x y).2) ?_).trans ?_
  ·exact rfl
  refine (eval_cons (r := (uS1 x y).1) (e' := (uS1 x y).2) ?_).trans ?_
  ·exact rfl
  refine (eval_cons (r := (uQ3 x y z).1) (e' := (uQ3 x y z).2) ?_).trans ?_
  ·exact rfl
  refine (eval_cons (r := (uS2 x y z).1) (e' := (uS2 x y z).2) ?_).trans ?_
  ·exact rfl
  refine (eval_cons (r := (uN x y z).1) (e' := (uN x y z).2) ?_).trans ?_
  ·exact rfl
  refine (eval_cons (r := (uD1 x y z).1) (e' := (uD1 x y z).2) ?_).trans ?_
  ·exact rfl
  refine (eval_cons (r := withI (uD1 x y z).1) (e' := (uD1 x y z).2) ?_).trans ?_
  ·exact rfl
  refine (eval_cons (r := (uD2 x y z).1) (e' := (uD2 x y z).2) ?_).trans ?_
  ·exact rfl
  refine (eval_cons (r := withI (uD2 x y z).1) (e' := (uD2 x y z).2) ?_).trans ?_
  ·exact rfl
  refine (eval_cons (r := (uD3 x y z).1) (e' := (uD3 x y z).2) ?_).trans ?_
  ·exact rfl
  refine (eval_cons (r := withI (uD3 x y z).1) (e' := (uD3 x y z).2) ?_).trans ?_
  ·exact rfl
  rfl
 unfold unV; rw [hE]; rfl
theorem with_lo {a:I} (h:z64.k ≤ a.lo.k):z64.k ≤ (withI a).lo.k := by
 unfold withI
 cases decide ((mnF a.hi one64).k < (mxF a.lo mone64).k)
 ·have := mxF_k a.lo mone64
  show z64.k ≤ (mxF a.lo mone64).k
  omega
 ·exact (by decide +kernel:z64.k ≤ I.zero.lo.k)
theorem z64_q:z64.q = 0 := by rw [show z64 = F.zero from F.ext' (by decide +kernel)]; exact q_zero
theorem un_in {x y z:F} (hz:z64.k < z.k):In1 (unV KkR x y z).x ∧ In1 (unV KkR x y z).y ∧ InB (unV KkR x y z).z bz1 := by
 rw [un_raw]
 have h:z64.k ≤ (uD3 x y z).1.lo.k := by
  by_cases h:(uD3 x y z).2 = 0
  ·obtain ⟨h1,_,hr,hn,_,hA⟩ := div_0 (h:(cDiv pDiv (uD2 x y z).2 (pt z) (uN x y z).1).2 = 0)
   obtain ⟨h2,_⟩ := div_0 (h1:(cDiv pDiv (uD1 x y z).2 (pt y) (uN x y z).1).2 = 0)
   obtain ⟨h3,_⟩ := div_0 (h2:(cDiv pDiv (uN x y z).2 (pt x) (uN x y z).1).2 = 0)
   obtain ⟨_,_,_,_,d,u⟩ := sqrt_0 (h3:(cSqrt qSqrt (uS2 x y z).2 (uS2 x y z).1).2 = 0)
   have d0:0 ≤ (uN x y z).1.lo.q := d.nn
   have np:0 < (uN x y z).1.lo.q := by
    rcases no_zero hr hn with g | g
    ·exact g
    ·have := rt_le hr; grind
   have nh := rt_le hr
   have zq:0 < z.q := by rw [← z64_q]; exact q_lt.2 hz
   have pos:∀ {n:Rat},0 < n → 0 ≤ z.q / n := by
    intro n hn
    have e:z.q / n * n = z.q := Rat.div_mul_cancel (by grind)
    generalize z.q / n = m at *
    apply Rat.not_lt.1
    intro g
    have := Rat.mul_pos (show 0 < -m by grind) hn
    grind
   have a := pos np
   have b := pos (show 0 < (uN x y z).1.hi.q by grind)
   have a':z64.q ≤ z.q / (uN x y z).1.lo.q := by rw [z64_q]; exact a
   have b':z64.q ≤ z.q / (uN x y z).1.hi.q := by rw [z64_q]; exact b
   exact q_le.1 (hA.top (c := z64) a' b' a' b')
  ·have e:(uD3 x y z).1 = I.zero := by
    have h':(cDiv pDiv (uD2 x y z).2 (pt z) (uN x y z).1).2 ≠ 0 := h
    show (cDiv pDiv (uD2 x y z).2 (pt z) (uN x y z).1).1 = I.zero
    unfold cDiv at h' ⊢
    exact ask_zz h'
   rw [e]; exact (by decide +kernel:z64.k ≤ I.zero.lo.k)
 have w := withI_in (uD3 x y z).1
 exact ⟨withI_in _,withI_in _,with_lo h,w.hi,w.rt⟩
end Bu
namespace Go.Proofs.YthclipfgcgoofaaGreat
open Go.RowKit Bu Rx
theorem zero_rt:rt I.zero = true := by decide
theorem num_re {e:Int} (he:Er e) (x:F):RE (KkR.num e x) := by
 by_cases h:e = 0
 ·subst h
  exact ⟨.inl rfl,(decide_eq_true (Int.le_refl _):rt (⟨x,x⟩:I) = true)⟩
 ·have e1:KkR.num e x = (I.zero,e) := ask_kept h _ _
  rw [e1]; exact ⟨he,zero_rt⟩
theorem add_re {e:Int} {a b:I} (he:Er e) (ha:rt a = true) (hb:rt b = true):RE (KkR.add e a b) := by
 refine ⟨ask_er he (by rw [ha,hb]; rfl) (ends_er (dAdd_RD _ _).er (dAdd_RU _ _).er),?_⟩
 by_cases h:(cAdd dAdd e a b).2 = 0
 ·obtain ⟨_,_,_,_,d,u⟩ := add_0 h
  have l1 := rt_le ha; have l2 := rt_le hb
  exact rt_q (a := (cAdd dAdd e a b).1) (by have := d.le; have := u.ge; grind)
 ·show rt (cAdd dAdd e a b).1 = true
  unfold cAdd at h ⊢
  rw [ask_zz h]; exact zero_rt
theorem sub_re {e:Int} {a b:I} (he:Er e) (ha:rt a = true) (hb:rt b = true):RE (KkR.sub e a b) := by
 refine ⟨ask_er he (by rw [ha,hb]; rfl) (ends_er (dSub_RD _ _).er (dSub_RU _ _).er),?_⟩
 by_cases h:(cSub dSub e a b).2 = 0
 ·obtain ⟨_,_,_,_,d,u⟩ := sub_0 h
  have l1 := rt_le ha; have l2 := rt_le hb
  exact rt_q (a := (cSub dSub e a b).1) (by have := d.le; have := u.ge; grind)
 ·show rt (cSub dSub e a b).1 = true
  unfold cSub at h ⊢
  rw [ask_zz h]; exact zero_rt
theorem mul_re {e:Int} {a b:I} (he:Er e) (ha:rt a = true) (hb:rt b = true):RE (KkR.mul e a b) := by
 refine ⟨ask_er he (by rw [ha,hb]; rfl) (all_er (mul_four a b)),?_⟩
 by_cases h:(cMul dMul e a b).2 = 0
 ·obtain ⟨_,_,_,_,A⟩ := mul_0 h
  exact AllR.rt A
 ·show rt (cMul dMul e a b).1 = true
  unfold cMul at h ⊢
  rw [ask_zz h]; exact zero_rt
theorem sqr_re {e:Int} {a:I} (he:Er e) (ha:rt a = true):RE (KkR.sqr e a) := by
 refine ⟨ask_er he ha (ends_er (dMul_RD _ _).er (dMul_RU _ _).er),?_⟩
 by_cases h:(cSqr dMul e a).2 = 0
 ·obtain ⟨_,_,_,d,u⟩ := sqr_0 h
  obtain ⟨b1,b2,_⟩ := bare_gen ha
  have m := Rat.mul_nonneg (show 0 ≤ (bareI a).hi.q - (bareI a).lo.q by grind) (show 0 ≤ (bareI a).hi.q + (bareI a).lo.q by grind)
  exact rt_q (a := (cSqr dMul e a).1) (by have := d.le; have := u.ge; grind)
 ·show rt (cSqr dMul e a).1 = true
  unfold cSqr at h ⊢
  rw [ask_zz h]; exact zero_rt
theorem mixK_re {e:Int} {w:F} {a b:I} (he:Er e) (ha:rt a = true) (hb:rt b = true):RE (mixK KkR e w a b) := by
 unfold mixK
 have q1 := num_re he one_
 have q2 := num_re q1.er w
 have s := sub_re q2.er q1.rt q2.rt
 have m1 := mul_re s.er s.rt ha
 have q3 := num_re m1.er w
 have m2 := mul_re q3.er q3.rt hb
 exact add_re m2.er m1.rt m2.rt
structure Rc (c:Ch):Prop where
 p:rt c.p = true
 m:rt c.m = true
structure REc (r:Ch × Int):Prop where
 er:Er r.2
 rt:Rc r.1
theorem mixC_re {w:F} {a b:Ch} (ha:Rc a) (hb:Rc b):REc (mixC KkR w a b) := by
 have p := mixK_re (w := w) (.inl rfl:Er 0) ha.p hb.p
 have m := mixK_re (w := w) p.er ha.m hb.m
 exact ⟨m.er,p.rt,m.rt⟩
theorem overC_re {i o:I} {w:F} {a:Ch} (hi:rt i = true) (ho:rt o = true) (ha:Rc a):REc (overC KkR i o w a) := by
 unfold overC
 have q1 := num_re (.inl rfl:Er 0) one_
 have qw := num_re q1.er w
 have s := sub_re qw.er q1.rt ho
 have h := sub_re s.er q1.rt hi
 have x := mul_re h.er h.rt s.rt
 have y := mul_re x.er x.rt qw.rt
 have f := mul_re y.er y.rt ha.p
 have q := sqr_re f.er s.rt
 have t := mul_re q.er q.rt qw.rt
 have z := mul_re t.er t.rt ha.m
 have r := add_re z.er ho z.rt
 exact ⟨r.er,f.rt,r.rt⟩
theorem hull_rtB {a b:I} (ha:rt a = true) (hb:rt b = true):rt (hullI a b) = true := by
 refine rt_q ?_
 have l1 := rt_le ha
 have h1 := (mnF_q a.lo b.lo).1
 have h2 := (mxF_q a.hi b.hi).1
 show (mnF a.lo b.lo).q ≤ (mxF a.hi b.hi).q
 grind
theorem hdC_er {r s i o d:I} (hr:rt r = true) (hs:rt s = true) (hi:rt i = true) (ho:rt o = true) (hd:rt d = true) (h1:z64.k < (orQ KkR i o d).hi.k) (h2:(orQ KkR i o d).lo.k < z64.k):Er (hdC r s i o d).2 := by
 have p := mul_re (.inl rfl:Er 0) hi ho
 have q := sub_re p.er hd p.rt
 have e:hdC r s i o d = evalK KkR ((orC.take 8).drop 2) [(KkR.sub (KkR.mul 0 i o).2 d (KkR.mul 0 i o).1).1,(KkR.mul 0 i o).1,d,o,i,s,r] (KkR.sub (KkR.mul 0 i o).2 d (KkR.mul 0 i o).1).2 := by
  unfold hdC
  refine (eval_cons (r := (KkR.mul 0 i o).1) (e' := (KkR.mul 0 i o).2) ?_).trans ?_
  ·exact rfl
  refine (eval_cons (r := (KkR.sub (KkR.mul 0 i o).2 d (KkR.mul 0 i o).1).1) (e' := (KkR.sub (KkR.mul 0 i o).2 d (KkR.mul 0 i o).1).2) ?_).trans ?_
  ·exact rfl
  rfl
 rw [e]
 have h1':z64.k < (KkR.sub (KkR.mul 0 i o).2 d (KkR.mul 0 i o).1).1.hi.k := h1
 have h2':(KkR.sub (KkR.mul 0 i o).2 d (KkR.mul 0 i o).1).1.lo.k < z64.k := h2
 have prt := p.rt
 clear e h1 h2 p
 generalize KkR.sub (KkR.mul 0 i o).2 d (KkR.mul 0 i o).1 = Q at *
 generalize (KkR.mul 0 i o).1 = P at *
 by_cases g:Q.2 = 0
 ·rw [g]
  refine eval_er (cons_rt q.rt (cons_rt prt (rts5 hd ho hi hs hr))) ⟨?_,fun hp f1 r1 => ⟨trivial,fun mx f2 r2 => ⟨trivial,fun up f3 r3 => ⟨?_,fun hn f4 r4 => ⟨?_,fun hu f5 r5 => ⟨trivial,fun _ _ _ => trivial⟩⟩⟩⟩⟩⟩
  ·exact decide_eq_true (Int.le_of_lt h1')
  ·exact decide_eq_true (Int.le_of_lt h2')
  ·exact hull_rtB r4 r3
 ·rw [eval_kept g]; exact q.er
theorem orA_c:chk (orA.take 3) [false,false,false,false,false] = true := by decide +kernel
theorem orB_c:chk (orB.take 5) [false,false,false,false,false] = true := by decide +kernel
theorem orR_re {r s i o d:I} (hr:Uz1 r) (hs:Uz1 s) (hi:rt i = true) (ho:rt o = true) (hd:rt d = true):RE (orR KkR r s i o d) := by
 have v5 := rts5 hd ho hi hs.rt hr.rt
 have he:Er (hdS r s i o d).2 := by
  unfold hdS
  cases c1:decide ((orQ KkR i o d).hi.k ≤ z64.k)
  ·rw [cond_false]
   cases c2:decide (z64.k ≤ (orQ KkR i o d).lo.k)
   ·have h1 := of_decide_eq_false c1
    have h2 := of_decide_eq_false c2
    exact hdC_er hr.rt hs.rt hi ho hd (by omega) (by omega)
   ·exact eval_er' orB_c (no_fl _ rfl) v5
  ·exact eval_er' orA_c (no_fl _ rfl) v5
 by_cases h:(orR KkR r s i o d).2 = 0
 ·obtain ⟨sl,h1,h2⟩ := or_to hr hs h
  rw [h2]
  exact ⟨.inl rfl,(orV_in hr hs (sl_b h1)).rt⟩
 ·rw [or_val hr hs] at h ⊢
  cases c:neB (hdS r s i o d).2
  ·rw [c] at h; exact absurd rfl h
  ·exact ⟨he,zero_rt⟩
theorem glM_re {g:Gl4 × Int} {r:I × Int} (hg:Er g.2) (hv:g.2 = 0 → rt g.1.v = true) (hr:g.2 = 0 → RE r):RE (glM KkR g r) := by
 unfold glM
 cases c1:neB g.2
 ·have g0 := neB_0 c1
  have hr := hr g0
  rw [cond_false]
  cases c2:neB r.2
  ·rw [cond_false]
   have m := mul_re (.inl rfl:Er 0) (hv g0) hr.rt
   cases c3:neB (KkR.mul 0 g.1.v r.1).2
   ·exact ⟨.inl rfl,m.rt⟩
   ·exact ⟨m.er,zero_rt⟩
  ·exact ⟨hr.er,zero_rt⟩
 ·exact ⟨hg,zero_rt⟩
theorem bz_hf {v u:V3} (hv:Wd v) (hu:Wd u) (h:(Bu.miK KkR v u).2 = 0):InB (gt (Bu.miK KkR v u).1 3) bz1 := by
 obtain ⟨_,b⟩ := hl_in h
 have b3:rt (gt (Bu.miK KkR v u).1 3) = true := b _ (List.mem_cons_of_mem _ (List.mem_cons_of_mem _ (List.mem_cons_self ..)))
 have b2 := of_decide_eq_true (b _ (List.mem_cons_of_mem _ (List.mem_cons_self ..)))
 have b1 := of_decide_eq_true (b _ (List.mem_cons_self ..))
 exact ⟨b2,b1,of_decide_eq_true b3⟩
theorem ggR_re {p:List Bu.Op} {c al:I} (hv:∀ x ∈ [c,al],rt x = true) (hc:CondE p [c,al]):RE (ggR KkR p c al) := line_re hv hc 0
structure GlP (v u:V3) (al:I):Prop where
 er:Er (glR KkR GlR v u al).2
 vv:(glR KkR GlR v u al).2 = 0 → rt (glR KkR GlR v u al).1.v = true
 dd:(glR KkR GlR v u al).2 = 0 → rt (glR KkR GlR v u al).1.d = true
 hh:(glR KkR GlR v u al).2 = 0 → InB (glR KkR GlR v u al).1.hf bz1
theorem gl_re {v u:V3} {al:I} (hv:Wd v) (hu:Wd u) (ha:rt al = true):GlP v u al := by
 have H:Er (Bu.miK KkR v u).2 := eval_er (hv.six hu) (mi_c hv hu)
 have L := line_re (hv.six hu) (mi_c hv hu) 0
 have D:RE (ggR KkR ggD (glH GlR v u).1 al) := ggR_re (rts2 L.rt ha) (gd_c L.rt ha)
 have G:RE (lnR (g2K KkR v.z u.z al) 0) := line_re (rts3 (inb_rt1 hu.z) (inb_rt1 hv.z) ha) (gg2_c hv.z hu.z ha) 0
 have O:RE (ggR KkR gg1 u.z al) := ggR_re (rts2 (inb_rt1 hu.z) ha) (gg1_c hu.z ha)
 have hv5:∀ x ∈ [(GlR.o u.z al).1,(GlR.b v.z u.z al).1,(GlR.d (glH GlR v u).1 al).1,u.z,v.z],rt x = true := rts5 O.rt G.rt D.rt (inb_rt1 hu.z) (inb_rt1 hv.z)
 have c5 := mv_c O.rt G.rt D.rt (inb_rt1 hu.z) (inb_rt1 hv.z)
 have M:Er (glE KkR GlR v u al).2 := eval_er hv5 c5
 have he:Er (glErr KkR GlR v u al) := by
  unfold glErr
  cases neB (GlR.H v u).2
  ·rw [cond_false]
   cases neB (GlR.d (glH GlR v u).1 al).2
   ·rw [cond_false]
    cases neB (GlR.b v.z u.z al).2
    ·rw [cond_false]
     cases neB (GlR.o u.z al).2
     ·exact M
     ·exact O.er
    ·exact G.er
   ·exact D.er
  ·exact H
 have hz:glErr KkR GlR v u al = 0 → (Bu.miK KkR v u).2 = 0 ∧ (glE KkR GlR v u al).2 = 0 := by
  intro h
  unfold glErr at h
  cases c1:neB (GlR.H v u).2
  ·rw [c1,cond_false] at h
   cases c2:neB (GlR.d (glH GlR v u).1 al).2
   ·rw [c2,cond_false] at h
    cases c3:neB (GlR.b v.z u.z al).2
    ·rw [c3,cond_false] at h
     cases c4:neB (GlR.o u.z al).2
     ·rw [c4,cond_false] at h
      exact ⟨neB_0 c1,h⟩
     ·rw [c4,cond_true] at h; rw [h] at c4; cases c4
    ·rw [c3,cond_true] at h; rw [h] at c3; cases c3
   ·rw [c2,cond_true] at h; rw [h] at c2; cases c2
  ·rw [c1,cond_true] at h; rw [h] at c1; cases c1
 cases c:neB (glErr KkR GlR v u al)
 ·obtain ⟨z1,z2⟩ := hz (neB_0 c)
  have R := fun i => line_rt hv5 c5 z2 i
  have e1:glR KkR GlR v u al = (glV KkR GlR v u al,0) := by unfold glR; rw [c]; rfl
  refine ⟨by rw [e1]; exact .inl rfl,fun _ => by rw [e1]; exact R 3,fun _ => by rw [e1]; exact R 0,fun _ => ?_⟩
  rw [e1]
  show InB (lnR (Bu.miK KkR v u) 3).1 bz1
  rw [lnR_0 z1]
  exact bz_hf hv hu z1
 ·have e1:glR KkR GlR v u al = (Gl4.zero,glErr KkR GlR v u al) := by unfold glR; rw [c]; rfl
  have hn:glErr KkR GlR v u al ≠ 0 := fun h => by rw [h] at c; cases c
  exact ⟨by rw [e1]; exact he,fun h => by rw [e1] at h; exact absurd h hn,fun h => by rw [e1] at h; exact absurd h hn,fun h => by rw [e1] at h; exact absurd h hn⟩
theorem val_re {l:Lf} (hl:LfO l) (hv:Wd l.v) (hu:Wd l.u):RE (vlG GmR KkR l) := by
 obtain ⟨k,f,c,v,u⟩ := l
 have r := hl.r; have n := hl.n
 simp only at r n hv hu
 rcases rt_kind r with e | e | e | e <;> subst e
 ·rw [val1_eq]
  unfold meL
  rw [gm_lb]
  exact line_re (rts1 (pF_rt _)) (lb_c (pF_rt _)) 0
 ·rw [val2_eq]
  obtain ⟨a,b⟩ := rt2_in r n
  by_cases h:(dtK KkR v u).2 = 0
  ·rw [meO_eq h]
   exact orR_re (uz_of a) (uz_of b) (inb_rt1 hv.z) (inb_rt1 hu.z) (line_rt (hv.six hu) (dt_c hv hu) h 0)
  ·have he:Er (dtK KkR v u).2 := eval_er (hv.six hu) (dt_c hv hu)
   have e1:meO KkR GmR f c.toNat v u = (I.zero,(dtK KkR v u).2) := by
    unfold meO
    rw [show neB (dtK KkR v u).2 = true by unfold neB; simpa using h]; rfl
   rw [e1]; exact ⟨he,zero_rt⟩
 ·rw [val3_eq]
  obtain ⟨a,b⟩ := rt3_in r
  have G := gl_re hv hu (pF_rt (f 13))
  unfold meP
  rw [gm_gl,gm_dl]
  refine glM_re G.er G.vv fun g0 => ?_
  obtain ⟨x,hx,ux⟩ := fd_all (G.hh g0) (bn_of b)
  have k:RE (lnR (fdK KkR (glR KkR GlR v u (pF (f 13))).1.hf (pF (f 14))) 0) := by rw [hx]; exact ⟨.inl rfl,ux.rt⟩
  exact k
 ·rw [val4_eq]
  have G := gl_re hv hu (pF_rt (f 13))
  unfold meM
  rw [gm_gl,gm_cd]
  refine glM_re G.er G.vv fun g0 => ?_
  have hh := inb_rt1 (G.hh g0)
  exact line_re (rts3 hh (pF_rt _) (pF_rt _)) (fc_c hh (pF_rt _) (pF_rt _)) 0
theorem den_re {l:Lf} (hl:LfO l) (hv:Wd l.v) (hu:Wd l.u):RE (dnG4 GmR l) := by
 obtain ⟨k,f,c,v,u⟩ := l
 have r := hl.r
 simp only at r hv hu
 have G := gl_re hv hu (pF_rt (f 13))
 have gd:RE ((glR KkR GlR v u (pF (f 13))).1.d,(glR KkR GlR v u (pF (f 13))).2) := by
  refine ⟨G.er,?_⟩
  by_cases g0:(glR KkR GlR v u (pF (f 13))).2 = 0
  ·exact G.dd g0
  ·show rt (glR KkR GlR v u (pF (f 13))).1.d = true
   unfold glR at g0 ⊢
   cases c:neB (glErr KkR GlR v u (pF (f 13)))
   ·rw [c] at g0; exact absurd rfl g0
   ·exact (by decide:rt Gl4.zero.d = true)
 rcases rt_kind r with e | e | e | e <;> subst e
 ·rw [den1_eq,gm_lb]; exact line_re (rts1 (inb_rt1 hv.z)) (lb_c (inb_rt1 hv.z)) 0
 ·rw [den2_eq,gm_lb]; exact line_re (rts1 (inb_rt1 hv.z)) (lb_c (inb_rt1 hv.z)) 0
 ·rw [den3_eq,gm_gl]; exact gd
 ·rw [den4_eq,gm_gl]; exact gd
end Go.Proofs.YthclipfgcgoofaaGreat
