/- chances: the mirror's part does not hang on the leaves. What leaves send, plain: gloss. .. -/
import Derived.Test.YtejcekikbnlllaaGreatT14
import Derived.Test.YtejcekikbnlllaaGreatT11
import Derived.Test.YtejcekikbnlllaaGreatT13
import Derived.Test.YtejcekikbnlllaaGreatT10
set_option linter.all false
namespace Go.Proofs.YtejcekikbnlllaaGreat
open Go.RowKit Bu Rx
theorem lnR_0 {E:List I × Int} {i:Nat} (h:E.2 = 0):lnR E i = (gt E.1 i,0) := by
 unfold lnR; rw [show neB E.2 = false by rw [h]; rfl]; rfl
theorem z64_0:z64.k = 0 := by decide +kernel
structure Uz1 (a:I):Prop where
 rt:rt a = true
 lo:z64.k ≤ a.lo.k
 hi:a.hi.k ≤ one64.k
theorem Uz1.box {a:I} (h:Uz1 a):InB a bz1 := ⟨h.lo,h.hi,of_decide_eq_true h.rt⟩
end Go.Proofs.YtejcekikbnlllaaGreat
namespace Bu
open Rx Go
def idxB (m:List Nat) (a i:Nat):Bool := decide (a < m.length) && Nat.beq (m.getD a 0) i
def okR (m:List Nat):Bu.Op → Bu.Op → Bool
 | .add i j,.add a b => idxB m a i && idxB m b j
 | .sub i j,.sub a b => idxB m a i && idxB m b j
 | .mul i j,.mul a b => idxB m a i && idxB m b j
 | .div i j,.div a b => idxB m a i && idxB m b j
 | .max i j,.max a b => idxB m a i && idxB m b j
 | .sqr i,.sqr a => idxB m a i
 | .sqrt i,.sqrt a => idxB m a i
 | .num x,.num y => eqF x y
 | .lit x,.lit y => eqI x y
 | .kept l h i,.kept l' h' a => eqF l l' && eqF h h' && idxB m a i
 | _,_ => false
def agR:List Bu.Op → List Bu.Op → List Nat → Bool
 | [],[],_ => true
 | o :: l,o' :: l',m => okR m o o' && agR l l' (0 :: m.map (· + 1))
 | _,_,_ => false
def AgV (m:List Nat) (v w:List I):Prop := ∀ a,a < m.length → gt w a = gt v (m.getD a 0)
theorem idx_ok {m:List Nat} {v w:List I} {a i:Nat} (h:AgV m v w) (k:idxB m a i = true):gt v i = gt w a := by
 unfold idxB at k
 rw [Bool.and_eq_true] at k
 rw [h a (of_decide_eq_true k.1),Nat.eq_of_beq_eq_true k.2]
theorem okR_step {K:Kk} {m:List Nat} {v w:List I} {o o':Bu.Op} {e:Int} (h:AgV m v w) (k:okR m o o' = true):stepK K o v e = stepK K o' w e := by
 unfold okR at k
 split at k <;> (try simp only [Bool.and_eq_true] at k)
 all_goals first
  | (simp only [stepK,idx_ok h k.1,idx_ok h k.2]; done)
  | (simp only [stepK,idx_ok h k]; done)
  | (simp only [stepK,eqF_ok k]; done)
  | (simp only [stepK,eqI_ok k]; done)
  | (simp only [stepK,eqF_ok k.1.1,eqF_ok k.1.2,idx_ok h k.2]; done)
  | exact absurd k (by decide)
theorem agV_push {m:List Nat} {v w:List I} {r:I} (h:AgV m v w):AgV (0 :: m.map (· + 1)) (r :: v) (r :: w) := by
 intro a ha
 cases a with
 | zero => rfl
 | succ a =>
   have ha':a < m.length := by simpa using ha
   have e:(0 :: m.map (· + 1)).getD (a + 1) 0 = m.getD a 0 + 1 := by
    simp only [List.getD_eq_getElem?_getD,List.getElem?_cons_succ,List.getElem?_map,List.getElem?_eq_getElem ha',Option.map_some,Option.getD_some]
   rw [e]
   exact h a ha'
theorem eval_agR {K:Kk}:∀ {l l':List Bu.Op} {m:List Nat} {v w:List I} {e:Int},agR l l' m = true → AgV m v w → (evalK K l v e).2 = (evalK K l' w e).2 ∧ ((l = [] → gt v 0 = gt w 0) → gt (evalK K l v e).1 0 = gt (evalK K l' w e).1 0)
 | [],[],m,v,w,e,_,_ => ⟨rfl,fun h => h rfl⟩
 | o :: l, o' :: l', m, v, w, e, h, k => by
   unfold agR at h
   rw [Bool.and_eq_true] at h
   have s := okR_step (K := K) (e := e) k h.1
   have t := eval_agR (K := K) (e := (stepK K o v e).2) h.2 (agV_push (r := (stepK K o v e).1) k)
   unfold evalK
   rw [← s]
   exact ⟨t.1,fun _ => t.2 fun _ => rfl⟩
 | [],_ :: _,_,_,_,_,h,_ => by cases h
 | _ :: _,[],_,_,_,_,h,_ => by cases h
theorem eval_app {K:Kk}:∀ {a b:List Bu.Op} {v:List I} {e:Int},evalK K (a ++ b) v e = evalK K b (evalK K a v e).1 (evalK K a v e).2
 | [],_,_,_ => rfl
 | o :: a, b, v, e => by
   show evalK K (a ++ b) ((stepK K o v e).1 :: v) (stepK K o v e).2 = _
   rw [eval_app]
   rfl
theorem eval_regs {K:Kk}:∀ {l:List Bu.Op} {v:List I} {e:Int} (k:Nat),gt (evalK K l v e).1 (l.length + k) = gt v k
 | [],v,e,k => by rw [List.length_nil,Nat.zero_add]; rfl
 | o :: l, v, e, k => by
   have h := eval_regs (K := K) (l := l) (v := (stepK K o v e).1 :: v) (e := (stepK K o v e).2) (k + 1)
   show gt (evalK K l ((stepK K o v e).1 :: v) (stepK K o v e).2).1 (l.length + 1 + k) = _
   rw [show l.length + 1 + k = l.length + (k + 1) by omega,h]
   rfl
theorem ev0 {o:Bu.Op} {l:List Bu.Op} {v:List I} (h:(evalK KkR (o :: l) v 0).2 = 0):(stepK KkR o v 0).2 = 0 ∧ evalK KkR (o :: l) v 0 = evalK KkR l ((stepK KkR o v 0).1 :: v) 0 := by
 have e:evalK KkR (o :: l) v 0 = evalK KkR l ((stepK KkR o v 0).1 :: v) (stepK KkR o v 0).2 := rfl
 by_cases k:(stepK KkR o v 0).2 = 0
 ·exact ⟨k,by rw [e,k]⟩
 ·rw [e,eval_kept k] at h; exact absurd h k
def orT:List Op := [.lit (PIc),.num (two64),.num (one64),.div 2 1,.num (three64),.div 3 0,.sub 2 0,.mul 0 8,.add 7 0,.div 6 0,.mul 11 0,.mul 0 11,.add 2 0,.mul 15 0,.kept z64 one64 0]
end Bu
namespace Go.Proofs.YtejcekikbnlllaaGreat
open Go.RowKit Bu Rx
theorem or_same:agR (orA.drop 3) orT [0,6,7] = true ∧ agR (orB.drop 5) orT [0,8,9] = true ∧ agR (orC.drop 8) orT [0,11,12] = true := by decide +kernel
set_option maxRecDepth 100000 in
theorem or_box:(evalK KkR orT [b11,bz1,bz1] 0).2 = 0 ∧ orT.all monoB = true ∧ (evalK KkR (orA.take 3) [b11,bzz,bzz,bz1,bz1] 0).2 = 0 ∧ (evalK KkR (orB.take 5) [b11,bzz,bzz,bz1,bz1] 0).2 = 0 ∧ (orA.take 3).all monoB = true ∧ (orB.take 5).all monoB = true := by decide +kernel
def orV (r s sl:I):I := gt (evalK KkR orT [sl,s,r] 0).1 0
def hdA (r s i o d:I):List I × Int := evalK KkR (orA.take 3) [d,o,i,s,r] 0
def hdB (r s i o d:I):List I × Int := evalK KkR (orB.take 5) [d,o,i,s,r] 0
def hdC (r s i o d:I):List I × Int := evalK KkR (orC.take 8) [d,o,i,s,r] 0
def hdS (r s i o d:I):List I × Int := bif decide ((orQ KkR i o d).hi.k ≤ z64.k) then hdA r s i o d else bif decide (z64.k ≤ (orQ KkR i o d).lo.k) then hdB r s i o d else hdC r s i o d
structure B11 (a:I):Prop where
 rt:rt a = true
 lo:mone64.k ≤ a.lo.k
 hi:a.hi.k ≤ one64.k
theorem B11.box {a:I} (h:B11 a):InB a b11 := ⟨h.lo,h.hi,of_decide_eq_true h.rt⟩
theorem kept_b11 {a:I} (h:rt a = true):B11 (keptI a mone64 one64) := by
 obtain ⟨e1,e2⟩ := keptI_k a mone64 one64
 have zk:mone64.k ≤ one64.k := by decide +kernel
 exact ⟨keptI_rt h,by rw [e1]; omega,by rw [e2]; omega⟩
theorem orV_box {r s sl:I} (hr:Uz1 r) (hs:Uz1 s) (hl:B11 sl):(evalK KkR orT [sl,s,r] 0).2 = 0 := (box (v := [sl,s,r]) (w := [b11,bz1,bz1]) or_box.2.1 ⟨hl.box,hs.box,hr.box,trivial⟩ or_box.1).1
theorem orV_in {r s sl:I} (hr:Uz1 r) (hs:Uz1 s) (hl:B11 sl):Uz1 (orV r s sl) := by
 obtain ⟨_,k⟩ := eval_chain (orV_box hr hs hl)
 unfold orV
 generalize (evalK KkR orT [sl,s,r] 0).1 = w at *
 obtain ⟨pi,hpi,two,htwo,n1,hn1,d1,hd1,n3,hn3,d2,hd2,ss,hss,m,hm,ad,had,a,ha,b,hb,bs,hbs,abs,habs,rv,hrv,v,hv,hend⟩ := k
 subst hend
 have h := hv
 have e:v = keptI rv z64 one64 := h
 obtain ⟨e1,e2⟩ := keptI_k rv z64 one64
 have zk:z64.k ≤ one64.k := by decide +kernel
 have r0:rt rv = true := AllR.rt hrv
 refine ⟨?_,?_,?_⟩
 ·show rt v = true
  rw [e]; exact keptI_rt r0
 ·show z64.k ≤ v.lo.k
  rw [e,e1]; omega
 ·show v.hi.k ≤ one64.k
  rw [e,e2]; omega
theorem tail_of {n:Nat} {p:List Nat} {l:List Bu.Op} {r s i o d:I} (hl:l.length = n + (l.drop n).length) (ha:agR (l.drop n) orT [0,n + 3,n + 4] = true) (hr:Uz1 r) (hs:Uz1 s) (hh:(evalK KkR (l.take n) [d,o,i,s,r] 0).2 = 0 → B11 (gt (evalK KkR (l.take n) [d,o,i,s,r] 0).1 0)) :
  lnR (orE KkR l r s i o d) 0 = bif neB (evalK KkR (l.take n) [d,o,i,s,r] 0).2 then (I.zero,(evalK KkR (l.take n) [d,o,i,s,r] 0).2) else (orV r s (gt (evalK KkR (l.take n) [d,o,i,s,r] 0).1 0),0) := by
 have e:orE KkR l r s i o d = evalK KkR (l.drop n) (evalK KkR (l.take n) [d,o,i,s,r] 0).1 (evalK KkR (l.take n) [d,o,i,s,r] 0).2 := by
  unfold orE
  rw [← eval_app,List.take_append_drop]
 have g := fun k => eval_regs (K := KkR) (l := l.take n) (v := [d,o,i,s,r]) (e := 0) k
 rw [List.length_take,Nat.min_eq_left (by omega)] at g
 rw [e]
 generalize hH:evalK KkR (l.take n) [d,o,i,s,r] 0 = H at *
 by_cases k:H.2 = 0
 ·have av:AgV [0,n + 3,n + 4] H.1 [gt H.1 0,s,r] := by
   intro a ha
   match a,ha with
   | 0,_ => rfl
   | 1,_ => exact (g 3).symm
   | 2,_ => exact (g 4).symm
  obtain ⟨t1,t2⟩ := eval_agR (K := KkR) (e := 0) ha av
  have b := orV_box hr hs (hh k)
  rw [k]
  rw [lnR_0 (t1.trans b)]
  show _ = (orV r s (gt H.1 0),0)
  unfold orV
  rw [t2 fun _ => rfl]
 ·have q:neB H.2 = true := by unfold neB; simpa using k
  unfold lnR
  rw [eval_kept k,q]
  rfl
theorem hdA_b {r s i o d:I} (h:(hdA r s i o d).2 = 0):B11 (gt (hdA r s i o d).1 0) := by
 have k := eval_chainR h
 unfold hdA at *
 generalize (evalK KkR (orA.take 3) [d,o,i,s,r] 0).1 = w at *
 obtain ⟨p,⟨hp,_⟩,q,⟨hq,hr⟩,sl,⟨hsl,_⟩,hend⟩ := k
 subst hend
 have e:sl = keptI q mone64 one64 := hsl
 show B11 sl
 rw [e]
 have a := rt_le (show rt d = true from hr.1)
 have b := rt_le (show rt p = true from AllR.rt hp)
 exact kept_b11 (dn_up hq.1 hq.2 (by show d.lo.q - p.hi.q ≤ d.hi.q - p.lo.q; grind))
theorem hdB_b {r s i o d:I} (h:(hdB r s i o d).2 = 0):B11 (gt (hdB r s i o d).1 0) := by
 obtain ⟨_,k⟩ := eval_chain h
 unfold hdB at *
 generalize (evalK KkR (orB.take 5) [d,o,i,s,r] 0).1 = w at *
 obtain ⟨p,hp,q,hq,mx,hmx,dv,hdv,sl,hsl,hend⟩ := k
 subst hend
 have e:sl = keptI dv mone64 one64 := hsl
 have r0:rt dv = true := AllR.rt hdv.2
 show B11 sl
 rw [e]
 exact kept_b11 r0
theorem hull_rt {a b:I} (ha:rt a = true) (hb:rt b = true):rt (hullI a b) = true := by
 have x := of_decide_eq_true ha; have y := of_decide_eq_true hb
 refine decide_eq_true ?_
 show (mnF a.lo b.lo).k ≤ (mxF a.hi b.hi).k
 rw [mnF_k,mxF_k]; omega
theorem hdC_b {r s i o d:I} (h:(hdC r s i o d).2 = 0) (h0:(orQ KkR i o d).lo.k < z64.k):B11 (gt (hdC r s i o d).1 0) := by
 have q0:orQ KkR i o d = gt (hdC r s i o d).1 6 := by
  have e:hdC r s i o d = evalK KkR ((orC.take 8).drop 2) (evalK KkR ((orC.take 8).take 2) [d,o,i,s,r] 0).1 (evalK KkR ((orC.take 8).take 2) [d,o,i,s,r] 0).2 := by rw [← eval_app,List.take_append_drop]; rfl
  rw [e]
  have g := eval_regs (K := KkR) (l := (orC.take 8).drop 2) (v := (evalK KkR ((orC.take 8).take 2) [d,o,i,s,r] 0).1) (e := (evalK KkR ((orC.take 8).take 2) [d,o,i,s,r] 0).2) 0
  exact Eq.symm g
 rw [q0] at h0
 obtain ⟨_,k⟩ := eval_chain h
 unfold hdC at *
 generalize (evalK KkR (orC.take 8) [d,o,i,s,r] 0).1 = w at *
 obtain ⟨p,hp,q,hq,hp',hhp,mx,hmx,up,hup,hn,hhn,hu,hhu,sl,hsl,hend⟩ := k
 subst hend
 have e:sl = keptI hu mone64 one64 := hsl
 have e1:hu = hullI hn up := hhu
 have e2:hn = negH q := hhn
 have r0:rt up = true := AllR.rt hup.2
 have r1:rt hn = true := by
  rw [e2]; exact decide_eq_true (Int.le_of_lt h0)
 show B11 sl
 rw [e,e1]
 exact kept_b11 (hull_rt r1 r0)
theorem or_val {r s i o d:I} (hr:Uz1 r) (hs:Uz1 s):orR KkR r s i o d = bif neB (hdS r s i o d).2 then (I.zero,(hdS r s i o d).2) else (orV r s (gt (hdS r s i o d).1 0),0) := by
 unfold orR hdS
 cases c1:decide ((orQ KkR i o d).hi.k ≤ z64.k)
 ·cases c2:decide (z64.k ≤ (orQ KkR i o d).lo.k)
  ·exact tail_of (n := 8) (p := []) rfl or_same.2.2 hr hs (fun h => hdC_b h (by have := of_decide_eq_false c2; omega))
  ·exact tail_of (n := 5) (p := []) rfl or_same.2.1 hr hs hdB_b
 ·exact tail_of (n := 3) (p := []) rfl or_same.1 hr hs hdA_b
theorem hdS_b {r s i o d:I} (h:(hdS r s i o d).2 = 0):B11 (gt (hdS r s i o d).1 0) := by
 unfold hdS at *
 cases c1:decide ((orQ KkR i o d).hi.k ≤ z64.k)
 ·cases c2:decide (z64.k ≤ (orQ KkR i o d).lo.k)
  ·rw [c1,c2] at h
   exact hdC_b h (by have := of_decide_eq_false c2; omega)
  ·rw [c1,c2] at h
   exact hdB_b h
 ·rw [c1] at h
  exact hdA_b h
structure SlH (i o d p q:I):Prop where
 m:KkR.mul 0 i o = (p,0)
 s:KkR.sub 0 d p = (q,0)
def SlP (i o d sl:I):Prop := ∃ p q,SlH i o d p q ∧
 ((q.hi.k ≤ z64.k ∧ sl = keptI q mone64 one64) ∨
  (z64.k < q.hi.k ∧ z64.k ≤ q.lo.k ∧ ∃ mx dv,KkR.max 0 i o = (mx,0) ∧ KkR.div 0 q mx = (dv,0) ∧ sl = keptI dv mone64 one64) ∨
  (z64.k < q.hi.k ∧ q.lo.k < z64.k ∧ ∃ mx up,KkR.max 0 i o = (mx,0) ∧ KkR.div 0 (posH q) mx = (up,0) ∧ sl = keptI (hullI (negH q) up) mone64 one64))
theorem orQ_of {i o d p q:I} (h:SlH i o d p q):orQ KkR i o d = q := by
 unfold orQ; rw [h.m]; show (KkR.sub 0 d p).1 = q; rw [h.s]
section
variable {r s i o d p q mx dv:I}
theorem hdA_eq (h:SlH i o d p q):hdA r s i o d = ([keptI q mone64 one64,q,p,d,o,i,s,r],0) := by
 unfold hdA
 have e1:stepK KkR (.mul 2 1) [d,o,i,s,r] 0 = (p,0) := h.m
 have e2:stepK KkR (.sub 1 0) [p,d,o,i,s,r] 0 = (q,0) := h.s
 show evalK KkR [.mul 2 1,.sub 1 0,.kept mone64 one64 0] [d,o,i,s,r] 0 = _
 rw [eval_cons e1,eval_cons e2]
 rfl
theorem hdB_eq (h:SlH i o d p q) (hm:KkR.max 0 i o = (mx,0)) (hd:KkR.div 0 q mx = (dv,0)):hdB r s i o d = ([keptI dv mone64 one64,dv,mx,q,p,d,o,i,s,r],0) := by
 unfold hdB
 have e1:stepK KkR (.mul 2 1) [d,o,i,s,r] 0 = (p,0) := h.m
 have e2:stepK KkR (.sub 1 0) [p,d,o,i,s,r] 0 = (q,0) := h.s
 have e3:stepK KkR (.max 4 3) [q,p,d,o,i,s,r] 0 = (mx,0) := hm
 have e4:stepK KkR (.div 1 0) [mx,q,p,d,o,i,s,r] 0 = (dv,0) := hd
 show evalK KkR [.mul 2 1,.sub 1 0,.max 4 3,.div 1 0,.kept mone64 one64 0] [d,o,i,s,r] 0 = _
 rw [eval_cons e1,eval_cons e2,eval_cons e3,eval_cons e4]
 rfl
theorem hdC_eq (h:SlH i o d p q) (hm:KkR.max 0 i o = (mx,0)) (hd:KkR.div 0 (posH q) mx = (dv,0)):hdC r s i o d = ([keptI (hullI (negH q) dv) mone64 one64,hullI (negH q) dv,negH q,dv,mx,posH q,q,p,d,o,i,s,r],0) := by
 unfold hdC
 have e1:stepK KkR (.mul 2 1) [d,o,i,s,r] 0 = (p,0) := h.m
 have e2:stepK KkR (.sub 1 0) [p,d,o,i,s,r] 0 = (q,0) := h.s
 have e2':stepK KkR (.fn posH 0) [q,p,d,o,i,s,r] 0 = (posH q,0) := rfl
 have e3:stepK KkR (.max 5 4) [posH q,q,p,d,o,i,s,r] 0 = (mx,0) := hm
 have e4:stepK KkR (.div 1 0) [mx,posH q,q,p,d,o,i,s,r] 0 = (dv,0) := hd
 show evalK KkR [.mul 2 1,.sub 1 0,.fn posH 0,.max 5 4,.div 1 0,.fn negH 3,.fn2 hullI 0 1,.kept mone64 one64 0] [d,o,i,s,r] 0 = _
 rw [eval_cons e1,eval_cons e2,eval_cons e2',eval_cons e3,eval_cons e4]
 rfl
end
theorem pr_eq {x:I × Int} (h:x.2 = 0):x = (x.1,0) := Prod.ext rfl h
theorem head_inv {l:List Bu.Op} {r s i o d:I} (h:(evalK KkR (.mul 2 1 :: .sub 1 0 :: l) [d,o,i,s,r] 0).2 = 0):∃ p q,SlH i o d p q ∧ evalK KkR (.mul 2 1 :: .sub 1 0 :: l) [d,o,i,s,r] 0 = evalK KkR l [q,p,d,o,i,s,r] 0 := by
 obtain ⟨h1,e1⟩ := ev0 h
 rw [e1] at h
 obtain ⟨h2,e2⟩ := ev0 h
 exact ⟨_,_,⟨pr_eq h1,pr_eq h2⟩,e1.trans e2⟩
theorem hdS_to {r s i o d:I} (h:(hdS r s i o d).2 = 0):∃ sl,SlP i o d sl ∧ gt (hdS r s i o d).1 0 = sl := by
 unfold hdS at *
 cases c1:decide ((orQ KkR i o d).hi.k ≤ z64.k)
 ·cases c2:decide (z64.k ≤ (orQ KkR i o d).lo.k)
  ·rw [c1,c2] at h
   simp only [cond_false] at h ⊢
   have h':(evalK KkR [.mul 2 1,.sub 1 0,.fn posH 0,.max 5 4,.div 1 0,.fn negH 3,.fn2 hullI 0 1,.kept mone64 one64 0] [d,o,i,s,r] 0).2 = 0 := h
   obtain ⟨p,q,hh,e⟩ := head_inv h'
   rw [e] at h'
   obtain ⟨_,e0⟩ := ev0 h'
   rw [e0] at h'
   obtain ⟨h3,e3⟩ := ev0 h'
   rw [e3] at h'
   obtain ⟨h4,e4⟩ := ev0 h'
   have k1 := of_decide_eq_false c1; have k2 := of_decide_eq_false c2
   rw [orQ_of hh] at k1 k2
   exact ⟨_,⟨p,q,hh,.inr (.inr ⟨by omega,by omega,_,_,pr_eq h3,pr_eq h4,rfl⟩)⟩,by rw [hdC_eq hh (pr_eq h3) (pr_eq h4)]; rfl⟩
  ·rw [c1,c2] at h
   simp only [cond_false,cond_true] at h ⊢
   have h':(evalK KkR [.mul 2 1,.sub 1 0,.max 4 3,.div 1 0,.kept mone64 one64 0] [d,o,i,s,r] 0).2 = 0 := h
   obtain ⟨p,q,hh,e⟩ := head_inv h'
   rw [e] at h'
   obtain ⟨h3,e3⟩ := ev0 h'
   rw [e3] at h'
   obtain ⟨h4,e4⟩ := ev0 h'
   have k1 := of_decide_eq_false c1; have k2 := of_decide_eq_true c2
   rw [orQ_of hh] at k1 k2
   exact ⟨_,⟨p,q,hh,.inr (.inl ⟨by omega,k2,_,_,pr_eq h3,pr_eq h4,rfl⟩)⟩,by rw [hdB_eq hh (pr_eq h3) (pr_eq h4)]; rfl⟩
 ·rw [c1] at h
  simp only [cond_true] at h ⊢
  have h':(evalK KkR [.mul 2 1,.sub 1 0,.kept mone64 one64 0] [d,o,i,s,r] 0).2 = 0 := h
  obtain ⟨p,q,hh,e⟩ := head_inv h'
  have k1 := of_decide_eq_true c1
  rw [orQ_of hh] at k1
  exact ⟨_,⟨p,q,hh,.inl ⟨k1,rfl⟩⟩,by rw [hdA_eq hh]; rfl⟩
theorem hdS_of {r s i o d sl:I} (h:SlP i o d sl):(hdS r s i o d).2 = 0 ∧ gt (hdS r s i o d).1 0 = sl := by
 obtain ⟨p,q,hh,c⟩ := h
 unfold hdS
 rw [orQ_of hh]
 rcases c with ⟨a,rfl⟩ | ⟨a,b,mx,dv,hm,hd,rfl⟩ | ⟨a,b,mx,dv,hm,hd,rfl⟩
 ·rw [decide_eq_true a,cond_true,hdA_eq hh]; exact ⟨rfl,rfl⟩
 ·rw [decide_eq_false (show ¬ q.hi.k ≤ z64.k by omega),decide_eq_true b,cond_false,cond_true,hdB_eq hh hm hd]; exact ⟨rfl,rfl⟩
 ·rw [decide_eq_false (show ¬ q.hi.k ≤ z64.k by omega),decide_eq_false (show ¬ z64.k ≤ q.lo.k by omega),cond_false,cond_false,hdC_eq hh hm hd]; exact ⟨rfl,rfl⟩
theorem max_eq {i o:I} (hi:rt i = true) (ho:rt o = true):KkR.max 0 i o = (maxI i o,0) := by
 show cMax 0 i o = _
 unfold cMax
 rw [hi,ho]; rfl
theorem inn_tr {a b c:I} (h:Inn a b) (k:Inn b c):Inn a c := ⟨Rat.le_trans k.lo h.lo,Rat.le_trans h.hi k.hi,h.rt⟩
theorem z_q0:z64.q = 0 := zero0_q
theorem div_zero_in {a b r:I} (h:KkR.div 0 a b = (r,0)) (h0:a.lo.q ≤ 0) (h1:0 ≤ a.hi.q):r.lo.q ≤ 0 ∧ 0 ≤ r.hi.q := by
 have st:(stepK KkR (.div 0 1) [a,b] 0).2 = 0 := by show (KkR.div 0 a b).2 = 0; rw [h]
 obtain ⟨_,g,f⟩ := step_fact st
 have f2:Fact (.div 0 1) [a,b] r := by
  rwa [show (stepK KkR (.div 0 1) [a,b] 0).1 = r from by show (KkR.div 0 a b).1 = r; rw [h]] at f
 have hb:rt b = true := g.2
 have m := p_div (x := 0) (y := b.lo.q) f2 ⟨h0,h1⟩ ⟨Rat.le_refl,rt_le hb⟩
 rw [Rat.div_def,Rat.zero_mul] at m
 exact ⟨m.1,m.2⟩
theorem max_rt {a b c:I} (h:KkR.max 0 a b = (c,0)):rt a = true ∧ rt b = true ∧ c = maxI a b := by
 have st:(stepK KkR (.max 0 1) [a,b] 0).2 = 0 := by show (KkR.max 0 a b).2 = 0; rw [h]
 obtain ⟨_,g,f⟩ := step_fact st
 exact ⟨g.1,g.2,by have e:(KkR.max 0 a b).1 = maxI a b := f; rw [h] at e; exact e⟩
theorem hull_inn {a a' b b':I} (ha:Inn a a') (hb:Inn b b'):Inn (hullI a b) (hullI a' b') := by
 have x := ha.inB; have y := hb.inB
 refine InB.inn ⟨?_,?_,of_decide_eq_true (hull_rt ha.rt hb.rt)⟩
 ·show (mnF a'.lo b'.lo).k ≤ (mnF a.lo b.lo).k
  have := x.1; have := y.1
  rw [mnF_k,mnF_k]; omega
 ·show (mxF a.hi b.hi).k ≤ (mxF a'.hi b'.hi).k
  have := x.2.1; have := y.2.1
  rw [mxF_k,mxF_k]; omega
theorem hull_ri {a b:I} (hb:rt b = true):Inn b (hullI a b) := by
 refine InB.inn ⟨?_,?_,of_decide_eq_true hb⟩
 ·show (mnF a.lo b.lo).k ≤ b.lo.k
  rw [mnF_k]; omega
 ·show b.hi.k ≤ (mxF a.hi b.hi).k
  rw [mxF_k]; omega
theorem sl_inn {i o d i' o' d' sl':I} (hi:Inn i i') (ho:Inn o o') (hd:Inn d d') (h:SlP i' o' d' sl'):∃ sl,SlP i o d sl ∧ Inn sl sl' := by
 obtain ⟨p',q',hh,c⟩ := h
 obtain ⟨p,e1,n1⟩ := mul_inn hi ho (show (cMul dMul 0 i' o').2 = 0 by have := hh.m; show (KkR.mul 0 i' o').2 = 0; rw [this])
 rw [show (cMul dMul 0 i' o').1 = p' from congrArg Prod.fst hh.m] at n1
 obtain ⟨q,e2,n2⟩ := sub_inn hd n1 (show (cSub dSub 0 d' p').2 = 0 by have := hh.s; show (KkR.sub 0 d' p').2 = 0; rw [this])
 rw [show (cSub dSub 0 d' p').1 = q' from congrArg Prod.fst hh.s] at n2
 have H:SlH i o d p q := ⟨e1,e2⟩
 have b2 := n2.inB
 have mxe := max_eq hi.rt ho.rt
 have dv:∀ {a a' mx' up':I},KkR.max 0 i' o' = (mx',0) → KkR.div 0 a' mx' = (up',0) → Inn a a' → ∃ up,KkR.div 0 a (maxI i o) = (up,0) ∧ Inn up up' := by
  intro a a' mx' up' hm hdv ha
  obtain ⟨_,_,e⟩ := max_rt hm
  obtain ⟨r,e3,n3⟩ := div_inn ha (by rw [e]; exact max_inn hi ho:Inn (maxI i o) mx') (show (cDiv pDiv 0 a' mx').2 = 0 by show (KkR.div 0 a' mx').2 = 0; rw [hdv])
  rw [show (cDiv pDiv 0 a' mx').1 = up' from congrArg Prod.fst hdv] at n3
  exact ⟨r,e3,n3⟩
 rcases c with ⟨a,rfl⟩ | ⟨a,b,mx,dv',hm,hdv,rfl⟩ | ⟨a,b,mx,up',hm,hdv,rfl⟩
 ·exact ⟨_,⟨p,q,H,.inl ⟨by have := b2.2.1; omega,rfl⟩⟩,kept_inn _ _ n2⟩
 ·by_cases g:q.hi.k ≤ z64.k
  ·refine ⟨_,⟨p,q,H,.inl ⟨g,rfl⟩⟩,kept_inn _ _ ?_⟩
   have g1 := q_le.2 g; have g2 := q_le.2 (show z64.k ≤ q.lo.k by have := b2.1; omega)
   have g3 := n2.lo; have g4 := n2.hi; have g5 := rt_le n2.rt
   have g6 := q_le.2 b
   rw [z_q0] at g1 g2 g6
   obtain ⟨w1,w2⟩ := div_zero_in hdv (by grind) (by grind)
   exact ⟨by grind,by grind,n2.rt⟩
  ·obtain ⟨up,e3,n3⟩ := dv hm hdv n2
   exact ⟨_,⟨p,q,H,.inr (.inl ⟨by omega,by have := b2.1; omega,_,_,mxe,e3,rfl⟩)⟩,kept_inn _ _ n3⟩
 ·have pz:(posH q').lo.q ≤ 0 ∧ 0 ≤ (posH q').hi.q := by
   have := q_le.2 (Int.le_of_lt a)
   rw [z_q0] at this
   exact ⟨by show z64.q ≤ 0; rw [z_q0]; exact Rat.le_refl,this⟩
  obtain ⟨w1,w2⟩ := div_zero_in hdv pz.1 pz.2
  have rup:rt up' = true := rt_q (Rat.le_trans w1 w2)
  have nh:rt (negH q') = true := decide_eq_true (Int.le_of_lt b)
  by_cases g:q.hi.k ≤ z64.k
  ·refine ⟨_,⟨p,q,H,.inl ⟨g,rfl⟩⟩,kept_inn _ _ (InB.inn ⟨?_,?_,b2.2.2⟩)⟩
   ·show (mnF (negH q').lo up'.lo).k ≤ q.lo.k
    have := b2.1
    have e:(negH q').lo.k = q'.lo.k := rfl
    rw [mnF_k]; omega
   ·show q.hi.k ≤ (mxF (negH q').hi up'.hi).k
    have e:(negH q').hi.k = z64.k := rfl
    rw [mxF_k]; omega
  ·by_cases g2:z64.k ≤ q.lo.k
   ·have ni:Inn q (posH q') := InB.inn ⟨g2,b2.2.1,b2.2.2⟩
    obtain ⟨up,e3,n3⟩ := dv hm hdv ni
    exact ⟨_,⟨p,q,H,.inr (.inl ⟨by omega,g2,_,_,mxe,e3,rfl⟩)⟩,kept_inn _ _ (inn_tr n3 (hull_ri rup))⟩
   ·have ni:Inn (posH q) (posH q') := InB.inn ⟨Int.le_refl _,b2.2.1,by show z64.k ≤ q.hi.k; omega⟩
    obtain ⟨up,e3,n3⟩ := dv hm hdv ni
    have nn:Inn (negH q) (negH q') := InB.inn ⟨b2.1,Int.le_refl _,by show q.lo.k ≤ z64.k; omega⟩
    exact ⟨_,⟨p,q,H,.inr (.inr ⟨by omega,by omega,_,_,mxe,e3,rfl⟩)⟩,kept_inn _ _ (hull_inn nn n3)⟩
def bQ:I := (cSub dSub 0 b11 (cMul dMul 0 bzz bzz).1).1
set_option maxRecDepth 100000 in
theorem box_sl:(cMul dMul 0 bzz bzz).2 = 0 ∧ (cSub dSub 0 b11 (cMul dMul 0 bzz bzz).1).2 = 0 ∧ (cDiv pDiv 0 bQ bzz).2 = 0 ∧ bQ.lo.k ≤ z64.k ∧ z64.k ≤ bQ.hi.k ∧ (cMax 0 bzz bzz).2 = 0 ∧ bQ.lo.k < z64.k ∧ z64.k < bQ.hi.k ∧ (cDiv pDiv 0 (posH bQ) (cMax 0 bzz bzz).1).2 = 0 := by decide +kernel
theorem sl_all:∃ sl,SlP bzz bzz b11 sl := by
 obtain ⟨e1,e2,e3,h1,h2,e4,h3,h4,e5⟩ := box_sl
 have s1:KkR.mul 0 bzz bzz = ((cMul dMul 0 bzz bzz).1,0) := pr_eq e1
 have s2:KkR.sub 0 b11 (cMul dMul 0 bzz bzz).1 = (bQ,0) := pr_eq e2
 have s3:KkR.max 0 bzz bzz = ((cMax 0 bzz bzz).1,0) := pr_eq e4
 have s4:KkR.div 0 (posH bQ) (cMax 0 bzz bzz).1 = ((cDiv pDiv 0 (posH bQ) (cMax 0 bzz bzz).1).1,0) := pr_eq e5
 exact ⟨_,_,_,⟨s1,s2⟩,.inr (.inr ⟨h4,h3,_,_,s3,s4,rfl⟩)⟩
theorem sl_ex {i o d:I} (hi:InB i bzz) (ho:InB o bzz) (hd:InB d b11):∃ sl,SlP i o d sl := by
 obtain ⟨w,h⟩ := sl_all
 obtain ⟨sl,k,_⟩ := sl_inn hi.inn ho.inn hd.inn h
 exact ⟨sl,k⟩
theorem mul_comm1 {i o p:I} (hi:rt i = true) (ho:rt o = true) (h:KkR.mul 0 i o = (p,0)) (k:(KkR.mul 0 o i).2 = 0):KkR.mul 0 o i = (p,0) := by
 have a := step_fact (o := .mul 0 1) (v := [i,o]) (e := 0) (by show (KkR.mul 0 i o).2 = 0; rw [h])
 have b := step_fact (o := .mul 0 1) (v := [o,i]) (e := 0) k
 have f1:AllR (KkR.mul 0 i o).1 (i.lo.q * o.lo.q) (i.lo.q * o.hi.q) (i.hi.q * o.lo.q) (i.hi.q * o.hi.q) := a.2.2
 have f2:AllR (KkR.mul 0 o i).1 (o.lo.q * i.lo.q) (o.lo.q * i.hi.q) (o.hi.q * i.lo.q) (o.hi.q * i.hi.q) := b.2.2
 rw [Rat.mul_comm o.lo.q i.lo.q,Rat.mul_comm o.lo.q i.hi.q,Rat.mul_comm o.hi.q i.lo.q,Rat.mul_comm o.hi.q i.hi.q] at f2
 rw [h] at f1
 have e:p = (KkR.mul 0 o i).1 := f1.one f2 (by simp) (by simp)
 rw [e]
 exact pr_eq k
theorem maxI_comm (a b:I):maxI a b = maxI b a := I.one (F.ext' (by show (mxF a.lo b.lo).k = (mxF b.lo a.lo).k; rw [mxF_k,mxF_k]; omega)) (F.ext' (by show (mxF a.hi b.hi).k = (mxF b.hi a.hi).k; rw [mxF_k,mxF_k]; omega))
theorem sl_comm {i o d sl:I} (hi:InB i bzz) (ho:InB o bzz) (h:SlP i o d sl):SlP o i d sl := by
 obtain ⟨p,q,hh,c⟩ := h
 obtain ⟨r,e,_⟩ := mul_inn ho.inn hi.inn box_sl.1
 have m := mul_comm1 hi.inn.rt ho.inn.rt hh.m (congrArg Prod.snd e)
 have mx:∀ {x:I},KkR.max 0 i o = (x,0) → KkR.max 0 o i = (x,0) := by
  intro x hx
  rw [max_eq ho.inn.rt hi.inn.rt,maxI_comm,← hx,max_eq hi.inn.rt ho.inn.rt]
 refine ⟨p,q,⟨m,hh.s⟩,?_⟩
 rcases c with c | ⟨a,b,x,y,hm,hd,e⟩ | ⟨a,b,x,y,hm,hd,e⟩
 ·exact .inl c
 ·exact .inr (.inl ⟨a,b,x,y,mx hm,hd,e⟩)
 ·exact .inr (.inr ⟨a,b,x,y,mx hm,hd,e⟩)
theorem sl_b {i o d sl:I} (h:SlP i o d sl):B11 sl := by
 obtain ⟨e1,e2⟩ := hdS_of (r := I.zero) (s := I.zero) h
 rw [← e2]
 exact hdS_b e1
theorem or_eq {r s i o d sl:I} (hr:Uz1 r) (hs:Uz1 s) (h:SlP i o d sl):orR KkR r s i o d = (orV r s sl,0) := by
 obtain ⟨e1,e2⟩ := hdS_of (r := r) (s := s) h
 rw [or_val hr hs,e1,e2]
 rfl
theorem or_to {r s i o d:I} (hr:Uz1 r) (hs:Uz1 s) (h:(orR KkR r s i o d).2 = 0):∃ sl,SlP i o d sl ∧ orR KkR r s i o d = (orV r s sl,0) := by
 rw [or_val hr hs] at h
 cases c:neB (hdS r s i o d).2
 ·have z := neB_0 c
  obtain ⟨sl,k,e⟩ := hdS_to z
  exact ⟨sl,k,or_eq hr hs k⟩
 ·rw [c] at h
  have h':(hdS r s i o d).2 = 0 := h
  rw [h'] at c
  cases c
end Go.Proofs.YtejcekikbnlllaaGreat
namespace Bu
open Rx Go
def Lf.c0 (l:Lf):Lf := ⟨l.k,l.f,0,l.v,l.u⟩
end Bu
namespace Go.Proofs.YtejcekikbnlllaaGreat
open Go.RowKit Bu Rx
theorem rng_in {x l h:F} {o:Obs} (k:ObsOk (rngO x l h o)):(l.k ≤ x.k ∧ x.k ≤ h.k) ∧ ObsOk o := by
 have a := of_decide_eq_false (ob_h k)
 have b := of_decide_eq_false (ob_h (ob_t k))
 exact ⟨⟨by omega,by omega⟩,ob_t (ob_t k)⟩
theorem bnd_of {x l h:F} (k:l.k ≤ x.k ∧ x.k ≤ h.k):ObsOk (bndO (pF x) l h) := ob_c (decide_eq_true k.2) (ob_c (decide_eq_true k.1) (ob_c (decide_eq_true (Int.le_refl _)) ob_n))
theorem uz_of {x:F} (k:z64.k ≤ x.k ∧ x.k ≤ one64.k):Uz1 (pF x) := ⟨decide_eq_true (Int.le_refl _),k.1,k.2⟩
theorem lt3 {P:Nat → Prop} {c:Nat} (h:c < 3) (p0:P 0) (p1:P 1) (p2:P 2):P c := by
 rcases (by omega:c = 0 ∨ c = 1 ∨ c = 2) with rfl | rfl | rfl
 ·exact p0
 ·exact p1
 ·exact p2
def Rn (l h:F) (x:F):Prop := l.k ≤ x.k ∧ x.k ≤ h.k
theorem rt1_in {f:Nat → F} (h:ObsOk (rtOb 1 f)) {c:Nat} (hc:c < 3):Rn z64 one64 (f c) := by
 have h:ObsOk (rtO1 f) := h
 obtain ⟨a2,h⟩ := rng_in (ob_t h)
 obtain ⟨a1,h⟩ := rng_in h
 obtain ⟨a0,_⟩ := rng_in h
 exact lt3 (P := fun c => Rn z64 one64 (f c)) hc a0 a1 a2
theorem rt2_in {f:Nat → F} (h:ObsOk (rtOb 2 f)) {c:Nat} (hc:c < 3):Rn z64 one64 (f c) ∧ Rn z64 one64 (f 12) := by
 have h:ObsOk (rtO2 f) := h
 obtain ⟨a3,h⟩ := rng_in (ob_t h)
 obtain ⟨a2,h⟩ := rng_in h
 obtain ⟨a1,h⟩ := rng_in h
 obtain ⟨a0,_⟩ := rng_in h
 exact ⟨lt3 (P := fun c => Rn z64 one64 (f c)) hc a0 a1 a2,a3⟩
theorem rt3_in {f:Nat → F} (h:ObsOk (rtOb 3 f)):Rn minA one64 (f 13) ∧ Rn minIo four64 (f 14) := by
 have h:ObsOk (rtO3 f) := h
 obtain ⟨a3,h⟩ := rng_in (ob_t h)
 obtain ⟨a2,_⟩ := rng_in h
 exact ⟨a2,a3⟩
theorem rt4_in {f:Nat → F} (h:ObsOk (rtOb 4 f)) {c:Nat} (hc:c < 3):Rn minA one64 (f 13) ∧ Rn minMt maxMt (f (6 + c)) ∧ Rn minMt maxMt (f (9 + c)) := by
 have h:ObsOk (rtO4 f) := h
 obtain ⟨b2,h⟩ := rng_in (ob_t h)
 obtain ⟨b1,h⟩ := rng_in h
 obtain ⟨b0,h⟩ := rng_in h
 obtain ⟨a2,h⟩ := rng_in h
 obtain ⟨a1,h⟩ := rng_in h
 obtain ⟨a0,h⟩ := rng_in h
 obtain ⟨al,_⟩ := rng_in h
 exact ⟨al,lt3 (P := fun c => Rn minMt maxMt (f (6 + c))) hc a0 a1 a2,lt3 (P := fun c => Rn minMt maxMt (f (9 + c))) hc b0 b1 b2⟩
theorem rt_kind {k:Int} {f:Nat → F} (h:ObsOk (rtOb k f)):k = 1 ∨ k = 2 ∨ k = 3 ∨ k = 4 := by
 unfold rtOb at h
 split at h
 ·exact .inl rfl
 ·exact .inr (.inl rfl)
 ·exact .inr (.inr (.inl rfl))
 ·exact .inr (.inr (.inr rfl))
 ·exact absurd (ob_h h) (by simp)
structure LfO (l:Lf):Prop where
 r:ObsOk (rtOb l.k l.f)
 v:ObsOk (dirO l.v)
 u:ObsOk (dirO l.u)
 c0:0 ≤ l.c
 c3:l.c < 3
theorem LfO.z {l:Lf} (h:LfO l):LfO l.c0 := ⟨h.r,h.v,h.u,Int.le_refl _,by show (0:Int) < 3; decide⟩
theorem LfO.n {l:Lf} (h:LfO l):l.c.toNat < 3 := by have := h.c0; have := h.c3; omega
theorem LfO.ch {l:Lf} (h:LfO l):ObsOk (chO l) := ob_c (decide_eq_true h.c3) (ob_c (decide_eq_true h.c0) ob_n)
theorem LfO.lk {l:Lf} (h:LfO l):ObsOk (lkOl l) := ob_a h.u (ob_a h.v (ob_a (ob_c (decide_eq_true h.c3) (ob_c (decide_eq_true h.c0) ob_n)) h.r))
theorem LfO.gl {l:Lf} (h:LfO l) (a:Rn minA one64 (l.f 13)):ObsOk (glO l.v l.u (pF (l.f 13))) := ob_a (bnd_of a) (ob_a h.v h.u)
theorem LfO.val {l:Lf} (h:LfO l):ObsOk (vlO l) := by
 have r := h.r
 have lk := h.lk; have ch := h.ch; have n := h.n; have hv := h.v; have hu := h.u; have hg := h.gl
 unfold vlO
 rcases rt_kind r with e | e | e | e <;> rw [e] at r ⊢
 ·exact ob_a lk (ob_a ch (bnd_of (rt1_in r n)))
 ·obtain ⟨a,b⟩ := rt2_in r n
  exact ob_a lk (ob_a ch (ob_a (bnd_of a) (ob_a (bnd_of b) (ob_a hv hu))))
 ·obtain ⟨a,b⟩ := rt3_in r
  exact ob_a lk (ob_a (hg a) (bnd_of b))
 ·obtain ⟨a,b,c⟩ := rt4_in r n
  exact ob_a lk (ob_a ch (ob_a (hg a) (ob_a (bnd_of b) (bnd_of c))))
theorem LfO.den {l:Lf} (h:LfO l):ObsOk (dnO4 l) := by
 have r := h.r
 have lk := h.lk; have ch := h.ch; have n := h.n; have hv := h.v; have hg := h.gl
 unfold dnO4
 rcases rt_kind r with e | e | e | e <;> rw [e] at r ⊢
 ·exact ob_a lk (dir_z hv)
 ·exact ob_a lk (dir_z hv)
 ·exact ob_a lk (hg (rt3_in r).1)
 ·exact ob_a lk (hg (rt4_in r n).1)
structure LfP (l:Lf):Prop where
 r:ObsOk (rtOb l.k l.f)
 v:OneP l.v
 u:OneP l.u
 c0:0 ≤ l.c
 c3:l.c < 3
theorem one_dir {v:V3} (h:OneP v):ObsOk (dirO v) := by
 obtain ⟨a,b,c⟩ := one_box h
 have e:z64.k ≤ bzz.lo.k := by decide +kernel
 have r:∀ {x:I},x.lo.k ≤ x.hi.k → rt x = true := fun k => decide_eq_true k
 exact ob_c (decide_eq_true c.2.1) (ob_c (decide_eq_true (Int.le_trans e c.1)) (ob_c (decide_eq_true b.2.1) (ob_c (decide_eq_true b.1) (ob_c (decide_eq_true a.2.1) (ob_c (decide_eq_true a.1) (ob_c (r c.2.2) (ob_c (r b.2.2) (ob_c (r a.2.2) ob_n))))))))
theorem LfP.o {l:Lf} (h:LfP l):LfO l := ⟨h.r,one_dir h.v,one_dir h.u,h.c0,h.c3⟩
theorem bn_of {x:F} (h:Rn minIo four64 x):InB (pF x) bn := ⟨h.1,h.2,Int.le_refl _⟩
set_option maxRecDepth 100000 in
theorem box_lb:lbV.all monoB = true ∧ (evalK KkR lbV [bz1] 0).2 = 0 ∧ z64.k ≤ (gt (evalK KkR lbV [bz1] 0).1 0).lo.k ∧ (evalK KkR lbV [bzz] 0).2 = 0 ∧ z64.k < (gt (evalK KkR lbV [bzz] 0).1 0).lo.k ∧ dtP.all monoB = true ∧ (evalK KkR dtP [bzz,b11,b11,bzz,b11,b11] 0).2 = 0 ∧ tw1 dtP dtP [3,4,5,0,1,2] 0 0 = true := by decide +kernel
def dtV (v u:V3):I := gt (dtK KkR v u).1 0
theorem dt_ok {v u:V3} (hv:OneP v) (hu:OneP u):(dtK KkR v u).2 = 0 ∧ InB (dtV v u) b11 := by
 obtain ⟨v1,v2,v3⟩ := one_box hv
 obtain ⟨u1,u2,u3⟩ := one_box hu
 obtain ⟨_,_,_,_,_,m,e,_⟩ := box_lb
 have b := box (v := [u.z,u.y,u.x,v.z,v.y,v.x]) (w := [bzz,b11,b11,bzz,b11,b11]) m ⟨u3,u2,u1,v3,v2,v1,trivial⟩ e
 have z:(dtK KkR v u).2 = 0 := b.1
 have o := dt_in z
 exact ⟨z,of_decide_eq_true (ob_h (ob_t o)),of_decide_eq_true (ob_h o),of_decide_eq_true (ob_h (ob_t (ob_t o)))⟩
theorem dt_comm {v u:V3} (hv:OneP v) (hu:OneP u):dtV u v = dtV v u := by
 have w:∀ i,i < [3,4,5,0,1,2].length → gt [v.z,v.y,v.x,u.z,u.y,u.x] i = gt [u.z,u.y,u.x,v.z,v.y,v.x] ([3,4,5,0,1,2].getD i 0) := by
  intro i hi
  match i,hi with
  | 0,_ => rfl
  | 1,_ => rfl
  | 2,_ => rfl
  | 3,_ => rfl
  | 4,_ => rfl
  | 5,_ => rfl
 exact tw_get (dt_ok hv hu).1 (dt_ok hu hv).1 w box_lb.2.2.2.2.2.2.2
theorem meO_eq {f:Nat → F} {c:Nat} {v u:V3} (hz:(dtK KkR v u).2 = 0):meO KkR GmR f c v u = orR KkR (pF (f c)) (pF (f 12)) v.z u.z (dtV v u) := by
 unfold meO
 rw [hz]
 rfl
theorem or_leaf {f:Nat → F} {c:Nat} {v u:V3} (hv:OneP v) (hu:OneP u) (h1:Uz1 (pF (f c))) (h2:Uz1 (pF (f 12))):∃ sl,B11 sl ∧ meO KkR GmR f c v u = (orV (pF (f c)) (pF (f 12)) sl,0) ∧ meO KkR GmR f c u v = (orV (pF (f c)) (pF (f 12)) sl,0) := by
 obtain ⟨_,_,v3⟩ := one_box hv
 obtain ⟨_,_,u3⟩ := one_box hu
 obtain ⟨z,b⟩ := dt_ok hv hu
 obtain ⟨sl,h⟩ := sl_ex v3 u3 b
 refine ⟨sl,sl_b h,?_,?_⟩
 ·rw [meO_eq z]; exact or_eq h1 h2 h
 ·rw [meO_eq (dt_ok hu hv).1,dt_comm hv hu]; exact or_eq h1 h2 (sl_comm v3 u3 h)
end Go.Proofs.YtejcekikbnlllaaGreat
namespace Bu
open Rx Go
def Pk (i:Nat):Int := (((1083 + i) * 4503599627370496:Nat):Int)
def Pb (i:Nat):I := ⟨z64,F.of (Pk i)⟩
def inbB (a b:I):Bool := decide (b.lo.k ≤ a.lo.k) && decide (a.hi.k ≤ b.hi.k)
def byE (A C:I):Bool := decide ((cMul dMul 0 bz1 A).2 = 0) && inbB (cMul dMul 0 bz1 A).1 C
theorem inB_tr {a b c:I} (h:InB a b) (k:inbB b c = true):InB a c := by
 unfold inbB at k
 rw [Bool.and_eq_true,decide_eq_true_eq,decide_eq_true_eq] at k
 exact ⟨Int.le_trans k.1 h.1,Int.le_trans h.2.1 k.2,h.2.2⟩
theorem zz_k:F.zero.k = z64.k := by decide +kernel
theorem zs_get {f:Nat → F} {js:List Nat} (h:zsB f js = true) {j:Nat} (hj:j ∈ js):(f j).k = z64.k := (of_decide_eq_true (List.all_eq_true.1 h j hj)).trans zz_k
theorem rn_get {l h:F} {f:Nat → F} {js:List Nat} (k:rsB l h f js = true) {j:Nat} (hj:j ∈ js):l.k ≤ (f j).k ∧ (f j).k ≤ h.k := by
 have := List.all_eq_true.1 k j hj
 unfold rnB at this
 simpa using this
theorem rn_one {l h x:F} (k:rnB l h x = true):l.k ≤ x.k ∧ x.k ≤ h.k := by unfold rnB at k; simpa using k
end Bu
namespace Go.Proofs.YtejcekikbnlllaaGreat
open Go.RowKit Bu Rx
theorem rng_mk {x l h:F} {o:Obs} (k:l.k ≤ x.k ∧ x.k ≤ h.k) (ho:ObsOk o):ObsOk (rngO x l h o) := ob_c (decide_eq_false (by omega)) (ob_c (decide_eq_false (by omega)) ho)
theorem nd_leaf {n:Nd} {p:Int} (h:okNd n p = true) (h5:n.k ≠ 5) (h6:n.k ≠ 6):ObsOk (rtOb n.k (etaF n.f)) := by
 obtain ⟨k,f,a,b⟩ := n
 simp only at h5 h6
 unfold okNd at h
 simp only [decide_eq_false h5,decide_eq_false h6,cond_false,Bool.false_and] at h
 by_cases h1:k = 1
 ·subst h1
  simp only [decide_true,cond_true,Bool.and_eq_true] at h
  obtain ⟨r,z,_⟩ := h
  have q:∀ j,j ∈ [3,4,5,6,7,8,9,10,11,12,13,14,15] → (f j).k = z64.k := fun j hj => zs_get z hj
  have g:∀ j,j ∈ [0,1,2] → z64.k ≤ (f j).k ∧ (f j).k ≤ one64.k := fun j hj => rn_get r hj
  show ObsOk (rtO1 (etaF f))
  refine ob_c ?_ (rng_mk (g 2 (by decide)) (rng_mk (g 1 (by decide)) (rng_mk (g 0 (by decide)) ob_n)))
  unfold eqNd q3E
  simp only [Bool.and_eq_true,decide_eq_true_eq]
  exact ⟨⟨rfl,rfl,rfl,trivial⟩,⟨q 3 (by decide),q 4 (by decide),q 5 (by decide),trivial⟩,⟨q 6 (by decide),q 7 (by decide),q 8 (by decide),trivial⟩,⟨q 9 (by decide),q 10 (by decide),q 11 (by decide),trivial⟩,q 12 (by decide),q 13 (by decide),q 14 (by decide),q 15 (by decide),rfl,rfl,trivial⟩
 simp only [decide_eq_false h1,cond_false] at h
 by_cases h2:k = 2
 ·subst h2
  simp only [decide_true,cond_true,Bool.and_eq_true] at h
  obtain ⟨r,z,_⟩ := h
  have q:∀ j,j ∈ [3,4,5,6,7,8,9,10,11,13,14,15] → (f j).k = z64.k := fun j hj => zs_get z hj
  have g:∀ j,j ∈ [12,0,1,2] → z64.k ≤ (f j).k ∧ (f j).k ≤ one64.k := fun j hj => rn_get r hj
  show ObsOk (rtO2 (etaF f))
  refine ob_c ?_ (rng_mk (g 12 (by decide)) (rng_mk (g 2 (by decide)) (rng_mk (g 1 (by decide)) (rng_mk (g 0 (by decide)) ob_n))))
  unfold eqNd q3E
  simp only [Bool.and_eq_true,decide_eq_true_eq]
  exact ⟨⟨rfl,rfl,rfl,trivial⟩,⟨q 3 (by decide),q 4 (by decide),q 5 (by decide),trivial⟩,⟨q 6 (by decide),q 7 (by decide),q 8 (by decide),trivial⟩,⟨q 9 (by decide),q 10 (by decide),q 11 (by decide),trivial⟩,rfl,q 13 (by decide),q 14 (by decide),q 15 (by decide),rfl,rfl,trivial⟩
 simp only [decide_eq_false h2,cond_false] at h
 by_cases h3:k = 3
 ·subst h3
  simp only [decide_true,cond_true,Bool.and_eq_true] at h
  obtain ⟨r1,r2,z,_⟩ := h
  have q:∀ j,j ∈ [0,1,2,3,4,5,6,7,8,9,10,11,12,15] → (f j).k = z64.k := fun j hj => zs_get z hj
  show ObsOk (rtO3 (etaF f))
  refine ob_c ?_ (rng_mk (rn_one r2) (rng_mk (rn_one r1) ob_n))
  unfold eqNd q3E
  simp only [Bool.and_eq_true,decide_eq_true_eq]
  exact ⟨⟨q 0 (by decide),q 1 (by decide),q 2 (by decide),trivial⟩,⟨q 3 (by decide),q 4 (by decide),q 5 (by decide),trivial⟩,⟨q 6 (by decide),q 7 (by decide),q 8 (by decide),trivial⟩,⟨q 9 (by decide),q 10 (by decide),q 11 (by decide),trivial⟩,q 12 (by decide),rfl,rfl,q 15 (by decide),rfl,rfl,trivial⟩
 simp only [decide_eq_false h3,cond_false] at h
 by_cases h4:k = 4
 ·subst h4
  simp only [decide_true,cond_true,Bool.and_eq_true] at h
  obtain ⟨r1,r2,z,_⟩ := h
  have q:∀ j,j ∈ [0,1,2,3,4,5,12,14,15] → (f j).k = z64.k := fun j hj => zs_get z hj
  have g:∀ j,j ∈ [6,7,8,9,10,11] → minMt.k ≤ (f j).k ∧ (f j).k ≤ maxMt.k := fun j hj => rn_get r2 hj
  show ObsOk (rtO4 (etaF f))
  refine ob_c ?_ (rng_mk (g 11 (by decide)) (rng_mk (g 10 (by decide)) (rng_mk (g 9 (by decide)) (rng_mk (g 8 (by decide)) (rng_mk (g 7 (by decide)) (rng_mk (g 6 (by decide)) (rng_mk (rn_one r1) ob_n)))))))
  unfold eqNd q3E
  simp only [Bool.and_eq_true,decide_eq_true_eq]
  exact ⟨⟨q 0 (by decide),q 1 (by decide),q 2 (by decide),trivial⟩,⟨q 3 (by decide),q 4 (by decide),q 5 (by decide),trivial⟩,⟨rfl,rfl,rfl,trivial⟩,⟨rfl,rfl,rfl,trivial⟩,q 12 (by decide),rfl,q 14 (by decide),q 15 (by decide),rfl,rfl,trivial⟩
 simp only [decide_eq_false h4,cond_false] at h
 cases h
end Go.Proofs.YtejcekikbnlllaaGreat
namespace Bu
open Rx Go
def frHd:List Bu.Op := frD.take 6
def frTl:List Bu.Op := frD.drop 7
set_option maxRecDepth 100000 in
theorem fr_box:(evalK KkR frD [bz1,bn] 0).2 = 0 ∧ (evalK KkR frHd [bz1,bn] 0).2 = 0 ∧ frD.all monoB = true ∧ frHd.all monoB = true ∧ frTl.all monoB = true := by decide +kernel
set_option maxRecDepth 100000 in
theorem fr_box3:z64.k ≤ (gt (evalK KkR frD [bz1,bn] 0).1 0).lo.k ∧ (gt (evalK KkR frD [bz1,bn] 0).1 0).hi.k ≤ one64.k ∧ z64.k ≤ bzz.lo.k := by decide +kernel
structure Ex (a:I) (x:Rat):Prop where
 l:a.lo.q = x
 h:a.hi.q = x
end Bu
namespace Go.Proofs.YtejcekikbnlllaaGreat
open Go.RowKit Bu Rx
set_option maxRecDepth 100000 in
theorem fd_all {c n:I} (hc:InB c bz1) (hn:InB n bn):∃ f,lnR (fdK KkR c n) 0 = (f,0) ∧ Uz1 f := by
 obtain ⟨e,_,m,_⟩ := fr_box
 obtain ⟨l,h,_⟩ := fr_box3
 have b := box (v := [c,n]) (w := [bz1,bn]) m ⟨hc,hn,trivial⟩ e
 have k := (b.2 0).inB
 exact ⟨gt (evalK KkR frD [c,n] 0).1 0,lnR_0 (E := evalK KkR frD [c,n] 0) (i := 0) b.1,(b.2 0).rt,Int.le_trans l k.1,Int.le_trans k.2.1 h⟩
theorem obsB_of {o:Obs} (h:ObsOk o):Bu.obsB o = true := List.all_eq_true.2 fun p hp => by simp [h p hp]
theorem leaf_lf {n:Nd} {p:Int} (h:okNd n p = true) (h5:n.k ≠ 5) (h6:n.k ≠ 6) {v u:V3} (hv:OneP v) (hu:OneP u) (c:Int) (c0:0 ≤ c) (c3:c < 3):LfP ⟨n.k,etaF n.f,c,v,u⟩ := ⟨nd_leaf h h5 h6,hv,hu,c0,c3⟩
theorem okNd_coatf {n:Nd} {p:Int} (h:okNd n p = true) (h6:n.k = 6):Rn minIo four64 (n.f 14) ∧ ∀ j,j ∈ [3,4,5] → z64.k ≤ (n.f j).k ∧ (n.f j).k ≤ one64.k := by
 unfold okNd at h
 rw [h6] at h
 simp only [Bool.and_eq_true,Int.reduceEq,decide_false,decide_true,cond_false,Bool.true_and] at h
 exact ⟨rn_one h.1,fun j hj => rn_get h.2.1 hj⟩
theorem fd_o {c:I} {x:F} (hc:InB c bz1) (hx:Rn minIo four64 x):ObsOk (fdO c (pF x)) := ob_a (bnd_of hx) (ob_c (decide_eq_true hc.2.1) (ob_c (decide_eq_true hc.1) (ob_c (decide_eq_true hc.2.2) ob_n)))
end Go.Proofs.YtejcekikbnlllaaGreat
namespace Bu
open Rx Go
theorem zs_c (js:List Nat):zsB (fun _ => z64) js = true := List.all_eq_true.2 fun _ _ => decide_eq_true zz_k.symm
theorem okNd_1 {x y z:F} (hx:rnB z64 one64 x = true) (hy:rnB z64 one64 y = true) (hz:rnB z64 one64 z = true) (p:Int):okNd ⟨1,ndM x y z z64 z64 z64 z64 z64 z64 z64 z64 z64 z64 z64 z64 z64,0,0⟩ p = true := by
 show ((rnB z64 one64 x && (rnB z64 one64 y && (rnB z64 one64 z && true))) && (zsB (fun _ => z64) [3,4,5,6,7,8,9,10,11,12,13,14,15] && (decide ((0:Int) = 0) && decide ((0:Int) = 0)))) = true
 rw [hx,hy,hz,zs_c]; rfl
theorem okNd_2 {x y z s:F} (hx:rnB z64 one64 x = true) (hy:rnB z64 one64 y = true) (hz:rnB z64 one64 z = true) (hs:rnB z64 one64 s = true) (p:Int):okNd ⟨2,ndM x y z z64 z64 z64 z64 z64 z64 z64 z64 z64 s z64 z64 z64,0,0⟩ p = true := by
 show ((rnB z64 one64 s && (rnB z64 one64 x && (rnB z64 one64 y && (rnB z64 one64 z && true)))) && (zsB (fun _ => z64) [3,4,5,6,7,8,9,10,11,13,14,15] && (decide ((0:Int) = 0) && decide ((0:Int) = 0)))) = true
 rw [hx,hy,hz,hs,zs_c]; rfl
theorem okPg_mk {cs:List SV} {len:Nat} (h1:(plains cs).isSome = true) (h2:1 ≤ len) (h3:len ≤ 4096) (h4:∀ i,i < len → okAt cs i = true):okPg cs len = true := by
 unfold okPg
 rw [h1,decide_eq_true h2,decide_eq_true h3,List.all_eq_true.2 fun i hi => h4 i (List.mem_range.1 hi)]; rfl
theorem okAt_mk {cs:List SV} {i:Nat} (h1:ckAll cs (i * 19) ndCK = true) (h2:okNd (ndR cs (i * 19)) i = true):okAt cs i = true := by
 unfold okAt; rw [h1,h2]; rfl
end Bu
namespace Go.Proofs.YtejcekikbnlllaaGreat
open Go.RowKit Bu Rx
def dirU (N:Npr) (x y z:Int):Obs := [(N.p d64 one64,true),(N.w z,true),(N.p mone64 one64,true),(N.w y,true),(N.p mone64 one64,true),(N.w x,true)]
def eiO (f g:OF):OF := fun a M ds => match f a M ds with
 | some r => some r
 | none => g a M ds
theorem eiO_ok {P:Program} {g:FuncId} {f h:OF} (hf:OfOk P g f) (hh:OfOk P g h):OfOk P g (eiO f h) := by
 intro args M ds x M' ds' ob hk ho
 unfold eiO at hk
 split at hk
 ·rename_i r hr
  cases hk
  exact hf args M ds x M' ds' ob hr ho
 ·exact hh args M ds x M' ds' ob hk ho
def kNilR:List SV → Dec → Option (SV × Dec × Obs)
 | [.o (.slice none 0 0)],ds => some (.b false,ds,[])
 | _,_ => none
theorem rgtNil:valR ((run Tryz.prog EG (lookO []) 60).1 50 [.o (.slice none 0 0)] [] (some [])) = some (.b false,some [],[]) := by kernel_rfl
theorem nilRG:PlainOk Tryz.prog 50 kNilR := by
 intro args ds x ds' ob h ho
 unfold kNilR at h
 split at h
 ·simp only [Option.some.injEq,Prod.mk.injEq] at h
  obtain ⟨rfl,_,rfl⟩ := h
  exact ⟨[.slice none 0 0],_,rfl,rfl,fun w => calls_of_val goodG (OracleOk.nil _) 60 rgtNil ob_n rfl rfl w⟩
 ·cases h
noncomputable def WgN:Nwg := ⟨KkR,okPg,unV KkR,unB,EvR,CeR⟩
theorem oracleWg:OracleOk Tryz.prog (OWg WgN) :=
 .cons (show RdOk Tryz.prog 50 (kRgt okPg) from rgtG).of <| .cons unNG.of <| .cons stG.of <| .cons eeK.of <| .cons deK.of <| oracleCL
def OWw (o:List SV → Nat → Bool) (un:F → F → F → V3) (ub:F → F → F → Bool):OracleF := lookO [(50,kRd 19 (kRgt o)),(17,eiO (plainO kUw) (plainO (kUnN un ub))),(110,plainO (kSt ub))]
noncomputable def wwRun (o:List SV → Nat → Bool) (un:F → F → F → V3) (ub:F → F → F → Bool) (e:TypeId) (cells:List SV) (off len cap:Nat) (x y z:F) (k:Int) (a b c:Nat) (r:R8) (d:List Bool) :=
 ((run Tryz.prog EG (OWw o un ub) 80).1 24 [.ssl 0 off len cap,.agg [.fl x,.fl y,.fl z],.agg ([.si .u8 k,.f a,.f b,.f c] ++ r.l)] [⟨e,cells,.num⟩] (some d)).map (fun q => (q.1,q.2.1.take 1,q.2.2))
def wwO (a b c:Nat):Obs := [(Nat.blt a 18446744073709551616,true),(Nat.blt b 18446744073709551616,true),(Nat.blt c 18446744073709551616,true),(rt3W a b c,false)]
def wwE (ub:F → F → F → Bool) (x y z:F):Int := bif ub x y z then 0 else 50
section
variable (o:List SV → Nat → Bool) (un:F → F → F → V3) (ub:F → F → F → Bool) (e:TypeId) (cells:List SV) (off len cap:Nat) (x y z:F) (k:Int) (a b c:Nat) (r:R8)
def wwH (o:List SV → Nat → Bool) (ub:F → F → F → Bool) (cs:List SV) (len:Nat) (x y z:F) (a b c:Nat):Obs := (ub x y z,true) :: (wwO a b c ++ ((wwE ub x y z != 0,false) :: [(o cs len,true)]))
theorem wwR_u:wwRun o un ub e cells off len cap x y z k a b c r [true] = some (wgZ (.i .i64 50),[⟨e,cells,.num⟩],some [],(wwE ub x y z != 0,true) :: [(o (cutC cells off len) len,true)]) := by unfold wwRun; kernel_rfl
theorem wwR_fail:wwRun o un ub e cells off len cap x y z k a b c r [false,true,true] = some (wgZ (.i .i64 0),[⟨e,cells,.num⟩],some [],(k == 0,true) :: (k == 0,true) :: wwH o ub (cutC cells off len) len x y z a b c) := by unfold wwRun; kernel_rfl
theorem wwR_m:wwRun o un ub e cells off len cap x y z k a b c r [false,false,true] = some (wgZ (.i .i64 230),[⟨e,cells,.num⟩],some [],(k == 1,true) :: (k == 0,false) :: wwH o ub (cutC cells off len) len x y z a b c) := by unfold wwRun; kernel_rfl
theorem wwR_d:wwRun o un ub e cells off len cap x y z k a b c r [false,false,false,true] = some (wgZ (.i .i64 230),[⟨e,cells,.num⟩],some [],(k == 2,true) :: (k == 1,false) :: (k == 0,false) :: wwH o ub (cutC cells off len) len x y z a b c) := by unfold wwRun; kernel_rfl
theorem wwR_o:wwRun o un ub e cells off len cap x y z k a b c r [false,false,false,false] = some (wgZ (.i .i64 230),[⟨e,cells,.num⟩],some [],(k == 2,false) :: (k == 1,false) :: (k == 0,false) :: wwH o ub (cutC cells off len) len x y z a b c) := by unfold wwRun; kernel_rfl
theorem wgNil:valR ((run Tryz.prog EG (lookO [(50,plainO kNilR)]) 60).1 24 [.o (.slice none 0 0),.agg [.fl x,.fl y,.fl z],.agg ([.si .u8 k,.f a,.f b,.f c] ++ r.l)] [] (some [])) = some (wgZ (.i .i64 210),some [],[]) := by kernel_rfl
end
def fW:SV → Option Nat
 | .f w => some w
 | .fl x => some x.b
 | _ => none
theorem fW_pl {s:SV} {w:Nat} (h:fW s = some w):plain s = some (.float .f64 w) := by
 unfold fW at h
 split at h
 ·cases h; rfl
 ·cases h; rfl
 ·cases h
structure Nwt where
 g:List SV → Nat → F → F → F → Int → Nat → Nat → Nat → WgR
 o:List SV → Nat → F → F → F → Int → Nat → Nat → Nat → Obs
def wtZ (x y z:F) (k:Int):WgR := bif unB x y z then bif k == 0 then wgZr 0 else wgZr 230 else wgZr 50
noncomputable def WtR:Nwt := ⟨fun cs len x y z k a b c => bif rt3W a b c then wgF WgN cs len x y z k (toF a) (toF b) (toF c) else wtZ x y z k,
 fun cs len x y z k a b c => (decide (cs.length = len * 19),true) :: (okPg cs len,true) :: (bif rt3W a b c then wgOb WgN cs len x y z k (toF a) (toF b) (toF c) else [(Nat.blt a 18446744073709551616,true),(Nat.blt b 18446744073709551616,true),(Nat.blt c 18446744073709551616,true)])⟩
def kWgA (T:Nwt):RdF := fun cs len l ds => match l with
 | [.agg [.fl x, .fl y, .fl z], .agg [kk, wa, wb, wc, b0, b1, b2, b3, b4, b5, nn, .b _]] => match intS kk, fW wa, fW wb, fW wc, fW b0, fW b1, fW b2, fW b3, fW b4, fW b5, intS nn with
   | some (.u8,k),some a,some b,some c,some _,some _,some _,some _,some _,some _,some (.i64,_) => some (wgSvR (T.g cs len x y z k a b c),ds,T.o cs len x y z k a b c)
   | _,_,_,_,_,_,_,_,_,_,_ => none
 | _ => none
theorem wgSv_pl (r:WgR):plain (wgSvR r) = some (wgVal r) := rfl
theorem oracleWw:OracleOk Tryz.prog (OWw okPg (unV KkR) unB) := .cons (show RdOk Tryz.prog 50 (kRgt okPg) from rgtG).of (.cons (eiO_ok unWG.of unNG.of) (.cons stG.of (.nil _)))
theorem rt3_ex {x y z:Nat} (h:rt3W x y z = true):∃ a b c:F,x = a.b ∧ y = b.b ∧ z = c.b := by
 unfold rt3W at h
 rw [Bool.and_eq_true,Bool.and_eq_true] at h
 obtain ⟨a,ha⟩ := F_of_right h.1.1
 obtain ⟨b,hb⟩ := F_of_right h.1.2
 obtain ⟨c,hc⟩ := F_of_right h.2
 exact ⟨a,b,c,ha.symm,hb.symm,hc.symm⟩
set_option maxRecDepth 20000 in
theorem wgAG:RdOk Tryz.prog 24 (kWgA WtR) := by
 intro cs len l ds r0 ds' ob h ho
 unfold kWgA at h
 split at h
 ·rename_i x y z kk wa wb wc b0 b1 b2 b3 b4 b5 nn s
  split at h
  ·rename_i k a b c r1 r2 r3 r4 r5 r6 n ek ea eb ec e0 e1 e2 e3 e4 e5 en
   simp only [Option.some.injEq,Prod.mk.injEq] at h
   obtain ⟨rfl,_,rfl⟩ := h
   have hpl:plains [.agg [.fl x,.fl y,.fl z],.agg [kk,wa,wb,wc,b0,b1,b2,b3,b4,b5,nn,.b s]] = some [.agg #[.float .f64 x.b,.float .f64 y.b,.float .f64 z.b],.agg #[.int .u8 k,.float .f64 a,.float .f64 b,.float .f64 c,.float .f64 r1,.float .f64 r2,.float .f64 r3,.float .f64 r4,.float .f64 r5,.float .f64 r6,.int .i64 n,.bool s]] :=
    plains_cons rfl (plains_cons (plain_agg (plains_cons (intS_plain ek) (plains_cons (fW_pl ea) (plains_cons (fW_pl eb) (plains_cons (fW_pl ec) (plains_cons (fW_pl e0) (plains_cons (fW_pl e1) (plains_cons (fW_pl e2) (plains_cons (fW_pl e3) (plains_cons (fW_pl e4) (plains_cons (fW_pl e5) (plains_cons (intS_plain en) (plains_cons rfl plains_nil))))))))))))) plains_nil)
   have ho':ObsOk ((decide (cs.length = len * 19),true) :: (okPg cs len,true) :: (bif rt3W a b c then wgOb WgN cs len x y z k (toF a) (toF b) (toF c) else [(Nat.blt a 18446744073709551616,true),(Nat.blt b 18446744073709551616,true),(Nat.blt c 18446744073709551616,true)])) := ho
   obtain ⟨h1,ho'⟩ := ob_h2 ho'
   obtain ⟨h2,ho'⟩ := ob_h2 ho'
   have hl:cs.length = len * 19 := of_decide_eq_true h1
   obtain ⟨vc,hc⟩ := (okPg_ok h2).pl
   have hE:WtR.g cs len x y z k a b c = bif rt3W a b c then wgF WgN cs len x y z k (toF a) (toF b) (toF c) else wtZ x y z k := rfl
   rw [hE]
   cases g:rt3W a b c
   ·rw [cond_false]
    rw [g,cond_false] at ho'
    obtain ⟨ha,ho'⟩ := ob_h2 ho'
    obtain ⟨hb,ho'⟩ := ob_h2 ho'
    obtain ⟨hcc,_⟩ := ob_h2 ho'
    refine ⟨vc,_,_,hc,hpl,wgSv_pl _,fun w q off cap hw => ?_⟩
    have fin:∀ {d:List Bool} {res:SV} (hx:plain res = some (wgVal (wtZ x y z k))) (hr:∀ (e:TypeId) (cells:List SV) (off cap:Nat),CellsAt cells off cs → ∃ ob,wwRun okPg (unV KkR) unB e cells off len cap x y z k a b c ⟨r1,r2,r3,r4,r5,r6,n,s⟩ d = some (res,[⟨e,cells,.num⟩],some [],ob) ∧ ObsOk ob),
      Calls Tryz.prog 24 (Value.slice (some ⟨q,off,none⟩) len cap :: [.agg #[.float .f64 x.b,.float .f64 y.b,.float .f64 z.b],.agg #[.int .u8 k,.float .f64 a,.float .f64 b,.float .f64 c,.float .f64 r1,.float .f64 r2,.float .f64 r3,.float .f64 r4,.float .f64 r5,.float .f64 r6,.int .i64 n,.bool s]]).toArray w fun e w' => e = .returned (wgVal (wtZ x y z k)) ∧ Below w.heap.size w w' := by
     intro d res hx hr
     refine rd_of_runT goodG oracleWw 80 (l := [.agg [.fl x,.fl y,.fl z],.agg ([.si .u8 k,.f a,.f b,.f c] ++ R8.l ⟨r1,r2,r3,r4,r5,r6,n,s⟩)]) hc rfl hx (fun e cells off cap hca => ?_) w q off cap hw
     obtain ⟨ob,h3,h4⟩ := hr e cells off cap hca
     exact ⟨_,_,ob,h3,h4⟩
    generalize hR:wtZ x y z k = R at fin ⊢
    unfold wtZ at hR
    cases g0:unB x y z
    ·rw [g0,cond_false] at hR; subst hR
     exact fin (res := wgZ (.i .i64 50)) rfl fun e cells off cap hca => ⟨_,by have hr := wwR_u okPg (unV KkR) unB e cells off len cap x y z k a b c ⟨r1,r2,r3,r4,r5,r6,n,s⟩; rw [cut_at hca hl] at hr; exact hr,ob_c (by unfold wwE; rw [g0]; rfl) (ob_c h2 ob_n)⟩
    ·rw [g0,cond_true] at hR
     have oH:ObsOk (wwH okPg unB cs len x y z a b c) := ob_c g0 (ob_a (ob_c ha (ob_c hb (ob_c hcc (ob_c g ob_n)))) (ob_c (by unfold wwE; rw [g0]; rfl) (ob_c h2 ob_n)))
     cases gk:(k == 0)
     ·rw [gk,cond_false] at hR; subst hR
      cases k1:(k == 1)
      ·cases k2:(k == 2)
       ·exact fin (res := wgZ (.i .i64 230)) rfl fun e cells off cap hca => ⟨_,by have hr := wwR_o okPg (unV KkR) unB e cells off len cap x y z k a b c ⟨r1,r2,r3,r4,r5,r6,n,s⟩; rw [cut_at hca hl] at hr; exact hr,ob_c k2 (ob_c k1 (ob_c gk oH))⟩
       ·exact fin (res := wgZ (.i .i64 230)) rfl fun e cells off cap hca => ⟨_,by have hr := wwR_d okPg (unV KkR) unB e cells off len cap x y z k a b c ⟨r1,r2,r3,r4,r5,r6,n,s⟩; rw [cut_at hca hl] at hr; exact hr,ob_c k2 (ob_c k1 (ob_c gk oH))⟩
      ·exact fin (res := wgZ (.i .i64 230)) rfl fun e cells off cap hca => ⟨_,by have hr := wwR_m okPg (unV KkR) unB e cells off len cap x y z k a b c ⟨r1,r2,r3,r4,r5,r6,n,s⟩; rw [cut_at hca hl] at hr; exact hr,ob_c k1 (ob_c gk oH)⟩
     ·rw [gk,cond_true] at hR; subst hR
      exact fin (res := wgZ (.i .i64 0)) rfl fun e cells off cap hca => ⟨_,by have hr := wwR_fail okPg (unV KkR) unB e cells off len cap x y z k a b c ⟨r1,r2,r3,r4,r5,r6,n,s⟩; rw [cut_at hca hl] at hr; exact hr,ob_c gk (ob_c gk oH)⟩
   ·rw [cond_true]
    rw [g,cond_true] at ho'
    obtain ⟨p,q,t,rfl,rfl,rfl⟩ := rt3_ex g
    rw [toF_F,toF_F,toF_F] at ho' ⊢
    obtain ⟨vc',h3,h4⟩ := wg_all (r := ⟨r1,r2,r3,r4,r5,r6,n,s⟩) oracleWg rfl ho' (vs := [.agg #[.float .f64 x.b,.float .f64 y.b,.float .f64 z.b],.agg #[.int .u8 k,.float .f64 p.b,.float .f64 q.b,.float .f64 t.b,.float .f64 r1,.float .f64 r2,.float .f64 r3,.float .f64 r4,.float .f64 r5,.float .f64 r6,.int .i64 n,.bool s]]) rfl
    exact ⟨vc',_,_,h3,hpl,wgSv_pl _,h4⟩
  ·cases h
 ·cases h
def kWgNil:List SV → Dec → Option (SV × Dec × Obs)
 | [.o (.slice none 0 0), .agg [.fl _, .fl _, .fl _], .agg [kk, wa, wb, wc, b0, b1, b2, b3, b4, b5, nn, .b _]], ds => match intS kk, fW wa, fW wb, fW wc, fW b0, fW b1, fW b2, fW b3, fW b4, fW b5, intS nn with
   | some (.u8,_),some _,some _,some _,some _,some _,some _,some _,some _,some _,some (.i64,_) => some (wgZ (.i .i64 210),ds,[])
   | _,_,_,_,_,_,_,_,_,_,_ => none
 | _,_ => none
set_option maxRecDepth 20000 in
theorem wgNilG:PlainOk Tryz.prog 24 kWgNil := by
 intro args ds r0 ds' ob h ho
 unfold kWgNil at h
 split at h
 ·rename_i x y z kk wa wb wc b0 b1 b2 b3 b4 b5 nn s
  split at h
  ·rename_i k a b c r1 r2 r3 r4 r5 r6 n ek ea eb ec e0 e1 e2 e3 e4 e5 en
   simp only [Option.some.injEq,Prod.mk.injEq] at h
   obtain ⟨rfl,_,rfl⟩ := h
   refine ⟨[.slice none 0 0,.agg #[.float .f64 x.b,.float .f64 y.b,.float .f64 z.b],.agg #[.int .u8 k,.float .f64 a,.float .f64 b,.float .f64 c,.float .f64 r1,.float .f64 r2,.float .f64 r3,.float .f64 r4,.float .f64 r5,.float .f64 r6,.int .i64 n,.bool s]],wgVal (wgZr 210),?_,rfl,fun w => ?_⟩
   ·exact plains_cons rfl (plains_cons rfl (plains_cons (plain_agg (plains_cons (intS_plain ek) (plains_cons (fW_pl ea) (plains_cons (fW_pl eb) (plains_cons (fW_pl ec) (plains_cons (fW_pl e0) (plains_cons (fW_pl e1) (plains_cons (fW_pl e2) (plains_cons (fW_pl e3) (plains_cons (fW_pl e4) (plains_cons (fW_pl e5) (plains_cons (intS_plain en) (plains_cons rfl plains_nil))))))))))))) plains_nil))
   ·exact calls_of_val goodG (.cons nilRG.of (.nil _)) 60 (wgNil x y z k a b c ⟨r1,r2,r3,r4,r5,r6,n,s⟩) ob_n rfl rfl w
  ·cases h
 ·cases h
def wgA_O (T:Nwt):OF := eiO (plainO kWgNil) (kRd 19 (kWgA T))
theorem wgA_OG:OfOk Tryz.prog 24 (wgA_O WtR) := eiO_ok wgNilG.of wgAG.of
def OA24 (T:Nwt):OracleF := lookO [(24,wgA_O T)]
def awD24:List Bool := List.replicate 12 true
noncomputable def aw24 (T:Nwt):Obs := match valR ((run Tryz.prog EG (OA24 T) 120).1 31 [] [] (some awD24)) with
 | some r => r.2.2
 | none => []
theorem aw24Run (T:Nwt):valR ((run Tryz.prog EG (OA24 T) 120).1 31 [] [] (some awD24)) = some (.b true,some [],aw24 T) := by kernel_rfl
set_option maxRecDepth 100000 in
theorem aw24_B:Bu.obsB (aw24 WtR) = true := by decide +kernel
theorem oracleA24:OracleOk Tryz.prog (OA24 WtR) := .cons wgA_OG (.nil _)
theorem awake24G:PlainOk Tryz.prog 31 (oConst (.b true)) := constG rfl fun w => calls_of_val goodG oracleA24 120 (aw24Run WtR) (obsB_ok aw24_B) rfl rfl w
end Go.Proofs.YtejcekikbnlllaaGreat
