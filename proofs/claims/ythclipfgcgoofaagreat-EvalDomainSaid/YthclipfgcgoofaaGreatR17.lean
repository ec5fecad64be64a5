/- EvalDomain: the powers of two. DensMirror by the reckoner: pieces. DensMirror by the .. -/
import Derived.Test.YthclipfgcgoofaaGreatR16
import Derived.Test.YthclipfgcgoofaaGreatR14
import Derived.Test.YthclipfgcgoofaaGreatR13
import Derived.Test.YthclipfgcgoofaaGreatR15
set_option linter.all false
namespace Go.Proofs.YthclipfgcgoofaaGreat
open Go.RowKit Bu Rx
theorem by_all:(List.range 41).all (fun j => Bu.obsB (muO (byF j) two_) && decide ((byF j).k = (((1003 + j) * P:Nat):Int))) = true := by decide +kernel
theorem by_ok {j:Nat} (h:j < 41):ObsOk (muO (byF j) two_) ∧ byF j = pwr (1003 + j) := by
 have a := List.all_eq_true.1 by_all j (List.mem_range.2 h)
 rw [Bool.and_eq_true] at a
 exact ⟨obsB_ok a.1,F.ext' ((of_decide_eq_true a.2).trans (pw_k (by omega)).symm)⟩
theorem mu_ok {x t p:F} (hp:p.k ≠ 0) (h:p.q = x.q * t.q):muF x t = p ∧ ObsOk (muO x t) := by
 have hz:p.z * (S:Int) = x.z * t.z := by
  have e1 := F.q_mul p; have e2 := F.q_mul x; have e3 := F.q_mul t
  have:((p.z * (S:Int):Int):Rat) = ((x.z * t.z:Int):Rat) := by
   rw [Rat.intCast_mul,Rat.intCast_mul,← e1,← e2,← e3,Rat.intCast_natCast,h]
   generalize (S:Rat) = s
   grind
  exact Rat.intCast_inj.1 this
 have e := Bu.mul_exact hp hz
 unfold muF muO
 rw [e]
 exact ⟨toF_F p,ob_c rfl (ob_c (right_F p) ob_n)⟩
theorem wn_mul {s a b a' b':Nat} (hs:s ≤ 40) (ha:1 ≤ a) (hb:b + s ≤ 2046) (hab:a ≤ 2046) (ha':a' ≤ a) (hb':b + s ≤ b') (hb2:b' ≤ 2046) (h1:1 ≤ b) {v:Rat} (h:Wn a b v):Wn a' b' (v * (pwr (1023 + s)).q) := by
 have t1:1 ≤ (pwr (1023 + s)).q := by rw [← pw_one]; exact pw_le (by omega) (by omega)
 have e := pw_mul (a := b) (b := 1023 + s) (c := b + s) h1 (by omega) (by omega) (by omega) (by omega) hb (by omega)
 have p := pw_pos ha hab
 refine ⟨?_,?_⟩
 ·exact Rat.le_trans (pw_le ha' hab) (Rat.le_trans h.lo (le_t (Rat.le_trans (Rat.le_of_lt p) h.lo) t1))
 ·exact Rat.le_trans (mul_t h.hi t1) (by rw [e]; exact pw_le hb' hb2)
theorem wn_div {s a b a' b':Nat} (hs:s ≤ 40) (ha:a' + s ≤ a) (ha0:1 ≤ a') (hab:a ≤ 2046) (hb:b ≤ b') (hb2:b' ≤ 2046) {v:Rat} (h:Wn a b (v * (pwr (1023 + s)).q)) (h0:0 ≤ v):Wn a' b' v := by
 have t1:1 ≤ (pwr (1023 + s)).q := by rw [← pw_one]; exact pw_le (by omega) (by omega)
 have e := pw_mul (a := a') (b := 1023 + s) (c := a' + s) ha0 (by omega) (by omega) (by omega) (by omega) (by omega) (by omega)
 refine ⟨of_mul_t (t := (pwr (1023 + s)).q) (Rat.le_trans (by rw [e]; exact pw_le ha hab) h.lo) t1,?_⟩
 exact Rat.le_trans (le_t h0 t1) (Rat.le_trans h.hi (pw_le hb hb2))
theorem up_x {x:F} {s:Nat} (hs:s ≤ 20) (h:Wn 989 1023 x.q ∨ Wn 989 1023 (-x.q)):∃ p:F,p.q = x.q * (pwr (1023 + s)).q ∧ (Wn 969 1043 p.q ∨ Wn 969 1043 (-p.q)) := by
 rcases h with h | h
 ·obtain ⟨d,hd⟩ := scale_up (s := s) (by omega) (by omega) (by omega) (by omega) h
  exact ⟨d,hd,.inl (by rw [hd]; exact wn_mul (by omega) (by omega) (by omega) (by omega) (by omega) (by omega) (by omega) (by omega) h)⟩
 ·have h':Wn 989 1023 x.neg.q := by rw [q_neg]; exact h
  obtain ⟨d,hd⟩ := scale_up (s := s) (by omega) (by omega) (by omega) (by omega) h'
  refine ⟨d.neg,by rw [q_neg,hd,q_neg]; grind,.inr ?_⟩
  rw [q_neg,Rat.neg_neg,hd]
  exact wn_mul (by omega) (by omega) (by omega) (by omega) (by omega) (by omega) (by omega) (by omega) h'
theorem nn_of {c:F} {t:Rat} (ht:1 ≤ t) (h:0 ≤ c.q * t):0 ≤ c.q := of_mul_t (by grind) ht
theorem dn_x {x:F} {s:Nat} (hs:s ≤ 20) (h:Wn 989 1023 x.q ∨ Wn 989 1023 (-x.q)):∃ p:F,x.q = p.q * (pwr (1023 + s)).q ∧ (Wn 969 1043 p.q ∨ Wn 969 1043 (-p.q)) := by
 have t1:1 ≤ (pwr (1023 + s)).q := by rw [← pw_one]; exact pw_le (by omega) (by omega)
 have p0 := pw_pos (a := 989) (by omega) (by omega)
 rcases h with h | h
 ·obtain ⟨d,hd⟩ := scale_dn (s := s) (by omega) (by omega) (by omega) (by omega) h
  have d0:0 ≤ d.q := nn_of t1 (by rw [← hd]; exact Rat.le_trans (Rat.le_of_lt p0) h.lo)
  rw [hd] at h
  exact ⟨d,hd,.inl (wn_div (by omega) (by omega) (by omega) (by omega) (by omega) (by omega) h d0)⟩
 ·have h':Wn 989 1023 x.neg.q := by rw [q_neg]; exact h
  obtain ⟨d,hd⟩ := scale_dn (s := s) (by omega) (by omega) (by omega) (by omega) h'
  have d0:0 ≤ d.q := nn_of t1 (by rw [← hd]; exact Rat.le_trans (Rat.le_of_lt p0) h'.lo)
  have hd' := hd
  rw [hd] at h'
  refine ⟨d.neg,?_,.inr ?_⟩
  ·rw [q_neg] at hd' ⊢; grind
  ·rw [q_neg,Rat.neg_neg]; exact wn_div (by omega) (by omega) (by omega) (by omega) (by omega) (by omega) h' d0
theorem wn_nz {a b:Nat} {p:F} (ha:1 ≤ a) (ha2:a ≤ 2046) (h:Wn a b p.q ∨ Wn a b (-p.q)):p.k ≠ 0 := by
 have p0 := pw_pos ha ha2
 refine k_ne fun e => ?_
 rw [e] at h
 rcases h with h | h <;> (have := h.lo; grind)
theorem sc_ok {x y z:F} {k:Nat} (hk:k < 41) (hx:Wn 989 1023 x.q ∨ Wn 989 1023 (-x.q)) (hy:Wn 989 1023 y.q ∨ Wn 989 1023 (-y.q)) (hz:Wn 989 1023 z.q) :
  ∃ x' y' z':F,(muF x (byF k) = x' ∧ ObsOk (muO x (byF k))) ∧ (muF y (byF k) = y' ∧ ObsOk (muO y (byF k))) ∧ (muF z (byF k) = z' ∧ ObsOk (muO z (byF k))) ∧
   unV KkR x' y' z' = unV KkR x y z ∧ (Wn 969 1043 x'.q ∨ Wn 969 1043 (-x'.q)) ∧ (Wn 969 1043 y'.q ∨ Wn 969 1043 (-y'.q)) ∧ Wn 969 1043 z'.q := by
 have wide:∀ {v:Rat},Wn 989 1023 v → Wn 969 1043 v := fun h => ⟨Rat.le_trans (pw_le (by omega) (by omega)) h.lo,Rat.le_trans h.hi (pw_le (by omega) (by omega))⟩
 have wz:∀ {v:Rat},(Wn 989 1023 v ∨ Wn 989 1023 (-v)) → Wz 969 1043 v := fun h => .inr (h.imp wide wide)
 have pos:∀ {p:F},0 ≤ p.q → (Wn 969 1043 p.q ∨ Wn 969 1043 (-p.q)) → Wn 969 1043 p.q := fun {p} h0 h => by
  rcases h with h | h
  ·exact h
  ·have := h.lo; have := pw_pos (a := 969) (by omega) (by omega); grind
 have z0:0 ≤ z.q := Rat.le_trans (Rat.le_of_lt (pw_pos (a := 989) (by omega) (by omega))) hz.lo
 rw [(by_ok hk).2]
 rcases Nat.lt_or_ge k 20 with g | g
 ·have hs:20 - k ≤ 20 := by omega
  have t1 := pw_mul (a := 1003 + k) (b := 1023 + (20 - k)) (c := 1023) (by omega) (by omega) (by omega) (by omega) (by omega) (by omega) (by omega)
  rw [pw_one] at t1
  generalize hse:20 - k = s at hs t1
  obtain ⟨p1,e1,w1⟩ := dn_x hs hx
  obtain ⟨p2,e2,w2⟩ := dn_x hs hy
  obtain ⟨p3,e3,w3⟩ := dn_x hs (.inl hz)
  have q:∀ {x p:F},x.q = p.q * (pwr (1023 + s)).q → p.q = x.q * (pwr (1003 + k)).q := fun {x p} h => by
   rw [h]
   generalize (pwr (1023 + s)).q = a at *
   generalize (pwr (1003 + k)).q = b at *
   have:p.q * a * b = p.q * (b * a) := by grind
   rw [this,t1]; grind
  have t2:1 ≤ (pwr (1023 + s)).q := by rw [← pw_one]; exact pw_le (by omega) (by omega)
  have w3' := pos (nn_of t2 (by rw [← e3]; exact z0)) w3
  refine ⟨p1,p2,p3,mu_ok (wn_nz (by omega) (by omega) w1) (q e1),mu_ok (wn_nz (by omega) (by omega) w2) (q e2),mu_ok (wn_nz (by omega) (by omega) w3) (q e3),?_,w1,w2,w3'⟩
  exact (un_scale (s := s) (by omega) (.inr w1) (.inr w2) w3' (wz hx) (wz hy) (wide hz) e1 e2 e3).symm
 ·obtain ⟨s,rfl⟩:∃ s,k = 20 + s := ⟨k - 20,by omega⟩
  have hs:s ≤ 20 := by omega
  have e0:1003 + (20 + s) = 1023 + s := by omega
  rw [e0]
  obtain ⟨p1,e1,w1⟩ := up_x hs hx
  obtain ⟨p2,e2,w2⟩ := up_x hs hy
  obtain ⟨p3,e3,w3⟩ := up_x hs (.inl hz)
  have t2:1 ≤ (pwr (1023 + s)).q := by rw [← pw_one]; exact pw_le (by omega) (by omega)
  have w3' := pos (by rw [e3]; exact Rat.mul_nonneg z0 (by grind)) w3
  refine ⟨p1,p2,p3,mu_ok (wn_nz (by omega) (by omega) w1) e1,mu_ok (wn_nz (by omega) (by omega) w2) e2,mu_ok (wn_nz (by omega) (by omega) w3) e3,?_,w1,w2,w3'⟩
  exact un_scale (s := s) (by omega) (wz hx) (wz hy) (wide hz) (.inr w1) (.inr w2) w3' e1 e2 e3
theorem sc_B {x y z:F} (hx:Wn 969 1043 x.q ∨ Wn 969 1043 (-x.q)) (hy:Wn 969 1043 y.q ∨ Wn 969 1043 (-y.q)) (hz:Wn 969 1043 z.q):unB x y z = true := by
 have ab:∀ {x:F},(Wn 969 1043 x.q ∨ Wn 969 1043 (-x.q)) → (pwr 969).k ≤ x.abs.k ∧ x.abs.k ≤ (pwr 1043).k := fun {x} h => by
  have e:x.abs.k = (x.k.natAbs:Int) := rfl
  rcases h with h | h
  ·have l := q_le.1 h.lo; have u := q_le.1 h.hi
   have p := pw_k (e := 969) (by omega)
   omega
  ·have h':Wn 969 1043 x.neg.q := by rw [q_neg]; exact h
   have l := q_le.1 h'.lo; have u := q_le.1 h'.hi
   have p := pw_k (e := 969) (by omega)
   rw [F.neg_k] at l u
   omega
 obtain ⟨x0,x1⟩ := ab hx
 obtain ⟨y0,y1⟩ := ab hy
 obtain ⟨z0,z1⟩ := ab (.inl hz)
 have kt:tiny64.k ≤ (pwr 969).k := by decide +kernel
 have kh:(pwr 1043).k ≤ huge64.k := by decide +kernel
 have m1 := mxF_k x.abs y.abs
 have m2 := mxF_k (mxF x.abs y.abs) z.abs
 have hm:(mostF x y z).k = max (mxF x.abs y.abs).k z.abs.k := m2
 unfold unB
 rw [decide_eq_false (by omega),decide_eq_false (by omega)]; rfl
theorem wn_bw {n:Int} (h:wN32 n = true):Wn 989 1023 (bwF mone64 one64 n).q ∨ Wn 989 1023 (-(bwF mone64 one64 n).q) := by
 have N := bwN1 (n := n)
 have e1:(pwr 1023).q = 1 := pw_one
 have k1:kE.k = (pwr 989).k := by decide +kernel
 have k2:kD.neg.k = (pwr 989).k := by decide +kernel
 have eE:kE = pwr 989 := F.ext' k1
 have eD:kD.neg = pwr 989 := F.ext' k2
 rcases bw_far h with g | g
 ·right
  have := q_le.2 g
  have e := q_neg kD
  rw [eD] at e
  exact ⟨by grind,by have := N.lo; rw [e1]; grind⟩
 ·left
  have := q_le.2 g
  rw [eE] at this
  exact ⟨this,by have := N.hi; rw [e1]; exact this⟩
theorem wn_bz (n:Int):Wn 989 1023 (bwF d64 one64 n).q := by
 obtain ⟨h0,h1⟩ := bwN2 (n := n)
 have e1:(pwr 1023).q = 1 := pw_one
 have ed:(pwr 989).q ≤ d64.q := q_le.2 (by decide +kernel)
 have e2:d64.q = 1 / 64 := e64_q
 exact ⟨by rw [e2] at ed; exact Rat.le_trans ed h0,by rw [e1]; exact h1⟩
end Go.Proofs.YthclipfgcgoofaaGreat
namespace Bu
open Rx Go
end Bu
namespace Go.Proofs.YthclipfgcgoofaaGreat
open Go.RowKit Bu Rx
noncomputable def EdN:Ned := ⟨NprR,fun cs len => prgC NprR (prU cs len) (prK len),prInB NprR,⟨uwV,uwE⟩,EvR,unV KkR,unB⟩
theorem ior_e:NprR.p minIor_ maxIor_ = true := by decide +kernel
theorem oracleEd:OracleOk Tryz.prog (OEd EdN) := .cons (eiO_ok (prG oraclePr ior_e rfl) (pzG oraclePr rfl)) (.cons bwG.of (.cons unTG.of (.cons etOG_ (.cons awake21G.of (.nil _)))))
structure E8.Ok (q:E8):Prop where
 x:q.x < 18446744073709551616
 y:q.y < 18446744073709551616
 z:q.z < 18446744073709551616
 r:q.r < 18446744073709551616
 s:q.s < 18446744073709551616
 t:q.t < 18446744073709551616
 u:q.u.ok = true
 p:0 ≤ q.p ∧ q.p ≤ 255
theorem eqI3_r (a:Nat → I):eqI3 a a = true := by
 have h:∀ x:I,eqIv x x = true := fun x => by unfold eqIv; rw [decide_eq_true rfl,decide_eq_true rfl]; rfl
 unfold eqI3; rw [h,h,h]; rfl
theorem eqLt_r (a:Nat → Ch):eqLtB a a = true := by unfold eqLtB; rw [eqI3_r,eqI3_r]; rfl
theorem un_or (x y z:Nat):uwE x y z = 50 ∨ (uwE x y z = 0 ∧ ∃ a b c:F,z = c.b ∧ uwV x y z = unV KkR a b c) := by
 cases g:un3W x y z
 ·left; unfold uwE; rw [g]; rfl
 ·right
  have g' := g
  unfold un3W at g'
  rw [Bool.and_eq_true] at g'
  obtain ⟨a,b,c,ea,eb,ec⟩ := rt3_of g'.1
  refine ⟨by unfold uwE; rw [g]; rfl,a,b,c,ec,?_⟩
  unfold uwV
  rw [g,cond_true,ea,eb,ec,toF_F,toF_F,toF_F]
theorem un_wdE {a b c:F} (h:¬ c.k ≤ z64.k):Wd (unV KkR a b c) := by
 obtain ⟨h1,h2,h3⟩ := un_in (x := a) (y := b) (z := c) (by omega)
 exact ⟨h1,h2,h3⟩
theorem etP_t {E:Nev} {v1 v2:V3} {e1 e2:Int} {z1 z2:Bool} {cs:List SV} {len:Nat} (h:((e1 != 0) || ((e2 != 0) || (z1 || z2))) = true):etP E v1 e1 z1 v2 e2 z2 cs len = [] := by unfold etP; rw [h,cond_true]
set_option maxRecDepth 20000 in
theorem ed_w {pc:List SV} {n:Nat} {q:E8} (hl:pc.length = n * 19) (hok:okPg pc n = true) (hq:q.Ok):∃ w,ObsOk (edOb EdN pc n q w) := by
 have hP:edP pc n = pc := by unfold edP; rw [List.drop_zero,← hl,List.take_length]
 have K := okPg_ok hok
 obtain ⟨u0,u1,u2,u3,u4,u5⟩ := u6_in hq.u
 have oD:∀ {o:Obs},ObsOk o → ObsOk (dirU EdN.N q.u.a3 q.u.a4 q.u.a5 ++ (dirU EdN.N q.u.a0 q.u.a1 q.u.a2 ++ o)) := fun h => ob_a (dirU_ok u3 u4 u5) (ob_a (dirU_ok u0 u1 u2) h)
 have oB:ObsOk ([blw q.r,blw q.s,blw q.t] ++ ([blw q.x,blw q.y,blw q.z] ++ [])) := ob_a (ob_c (blw_ok hq.r) (ob_c (blw_ok hq.s) (ob_c (blw_ok hq.t) ob_n))) (ob_a (ob_c (blw_ok hq.x) (ob_c (blw_ok hq.y) (ob_c (blw_ok hq.z) ob_n))) ob_n)
 have oE:ObsOk (etP EvR (uwV q.x q.y q.z) (uwE q.x q.y q.z) (leW q.z (toF 0)) (uwV q.r q.s q.t) (uwE q.r q.s q.t) (leW q.t (toF 0)) pc n) → ObsOk (ewO EdN.E EdN.U q.x q.y q.z q.r q.s q.t pc n) := fun h =>
  ob_c (decide_eq_true hl) (ob_c hok (ob_a (ob_c (blw_ok hq.r) (ob_c (blw_ok hq.s) (ob_c (blw_ok hq.t) (ob_c (blw_ok hq.x) (ob_c (blw_ok hq.y) (ob_c (blw_ok hq.z) ob_n)))))) h))
 have hR:edR1 EdN pc n q = etR EvR (uwV q.x q.y q.z) (uwE q.x q.y q.z) (leW q.z (toF 0)) (uwV q.r q.s q.t) (uwE q.r q.s q.t) (leW q.t (toF 0)) pc n := by
  show ewR EdN.E EdN.U q.x q.y q.z q.r q.s q.t (edP pc n) n = _
  rw [hP]; rfl
 have fin:∀ (w:W6) (r:(Nat → Ch) × Int),edR1 EdN pc n q = r → ObsOk (edO2 r.2 r.1 q.z q.t w) → ((r.2 == 2) = false ∧ (r.2 == 20) = false ∧ (r.2 == 210) = false) → ObsOk (edO1 r.2 (uwE q.x q.y q.z) (uwE q.r q.s q.t) w) →
   ObsOk (etP EvR (uwV q.x q.y q.z) (uwE q.x q.y q.z) (leW q.z (toF 0)) (uwV q.r q.s q.t) (uwE q.r q.s q.t) (leW q.t (toF 0)) pc n) → ∃ w,ObsOk (edOb EdN pc n q w) := by
  intro w r hr h2 hh h1 hp
  refine ⟨w,?_⟩
  unfold edOb
  rw [hr,hP]
  exact oD (ob_a h2 (ob_c hh.1 (ob_c hh.2.1 (ob_c hh.2.2 (ob_a h1 (ob_a (oE hp) oB))))))
 rcases un_or q.x q.y q.z with a50 | ⟨a0,a,b,c,ec,ev⟩
 ·have hr:edR1 EdN pc n q = (fun _ => zCh,50) := by rw [hR,a50]; rfl
  refine fin .u _ hr (ob_c rfl ob_n) ⟨rfl,rfl,rfl⟩ (ob_c (by rw [a50]; rfl) (ob_c rfl ob_n)) ?_
  rw [etP_t (by rw [a50]; rfl)]; exact ob_n
 ·rcases un_or q.r q.s q.t with b50 | ⟨b0,a',b',c',ec',ev'⟩
  ·have hr:edR1 EdN pc n q = (fun _ => zCh,50) := by rw [hR,a0,b50]; rfl
   refine fin .w _ hr (ob_c rfl ob_n) ⟨rfl,rfl,rfl⟩ (ob_c (by rw [b50]; rfl) (ob_c (by rw [a0]; rfl) (ob_c rfl ob_n))) ?_
   rw [etP_t (by rw [a0,b50]; rfl)]; exact ob_n
  ·have lz:leW q.z (toF 0) = decide (c.k ≤ z64.k) := by rw [ec]; exact leW_F c (toF 0)
   have lt:leW q.t (toF 0) = decide (c'.k ≤ z64.k) := by rw [ec']; exact leW_F c' (toF 0)
   have o1:∀ {w:W6} {g:Int},w ≠ .u → w ≠ .w → (g == 50) = false → ObsOk (edO1 g (uwE q.x q.y q.z) (uwE q.r q.s q.t) w) := fun {w g} h1 h2 h3 => by
    have k:ObsOk [(uwE q.r q.s q.t != 0,false),(uwE q.x q.y q.z != 0,false),(g == 50,false)] := ob_c (by rw [b0]; rfl) (ob_c (by rw [a0]; rfl) (ob_c h3 ob_n))
    cases w
    ·exact absurd rfl h1
    ·exact absurd rfl h2
    all_goals exact k
   have zz:∀ {z1 z2:Bool},(z1 || z2) = true → etR EvR (uwV q.x q.y q.z) 0 z1 (uwV q.r q.s q.t) 0 z2 pc n = (fun _ => zCh,0) := fun {z1 z2} h => by
    unfold etR
    rw [h]; rfl
   by_cases gz:c.k ≤ z64.k
   ·have z1:leW q.z (toF 0) = true := lz.trans (decide_eq_true gz)
    have hr:edR1 EdN pc n q = (fun _ => zCh,0) := by rw [hR,a0,b0,z1]; exact zz (Bool.true_or _)
    refine fin .y _ hr (ob_c (by rw [eqLt_r]; rfl) (ob_c z1 (ob_c rfl ob_n))) ⟨rfl,rfl,rfl⟩ (o1 (fun h => by cases h) (fun h => by cases h) rfl) ?_
    rw [etP_t (by rw [a0,b0,z1]; rfl)]; exact ob_n
   ·have z1:leW q.z (toF 0) = false := lz.trans (decide_eq_false gz)
    by_cases gt:c'.k ≤ z64.k
    ·have z2:leW q.t (toF 0) = true := lt.trans (decide_eq_true gt)
     have hr:edR1 EdN pc n q = (fun _ => zCh,0) := by rw [hR,a0,b0,z1,z2]; exact zz (Bool.or_true _)
     refine fin .z _ hr (ob_c (by rw [eqLt_r]; rfl) (ob_c z2 (ob_c z1 (ob_c rfl ob_n)))) ⟨rfl,rfl,rfl⟩ (o1 (fun h => by cases h) (fun h => by cases h) rfl) ?_
     rw [etP_t (by rw [a0,b0,z1,z2]; rfl)]; exact ob_n
    ·have z2:leW q.t (toF 0) = false := lt.trans (decide_eq_false gt)
     have w1 := un_wdE (a := a) (b := b) gz
     have w2 := un_wdE (a := a') (b := b') gt
     have hr:edR1 EdN pc n q = (EvR.g (unV KkR a b c) (unV KkR a' b' c') pc n,evE NeR (unV KkR a b c) (unV KkR a' b' c') pc n) := by rw [hR,a0,b0,z1,z2,ev,ev']; rfl
     have he := evE_er w1 w2 K n (Nat.le_refl _)
     have hp:ObsOk (etP EvR (uwV q.x q.y q.z) (uwE q.x q.y q.z) (leW q.z (toF 0)) (uwV q.r q.s q.t) (uwE q.r q.s q.t) (leW q.t (toF 0)) pc n) := by
      rw [a0,b0,z1,z2,ev,ev']
      exact ob_c (evPs_w K w1 w2) (ob_a w2.dir w1.dir)
     generalize evE NeR (unV KkR a b c) (unV KkR a' b' c') pc n = e at he hr
     have hb:(e == 2) = false ∧ (e == 20) = false ∧ (e == 210) = false := by rcases he with h | h | h <;> rw [h] <;> exact ⟨rfl,rfl,rfl⟩
     have h50:(e == 50) = false := by rcases he with h | h | h <;> rw [h] <;> rfl
     by_cases e0:e = 0
     ·exact fin .e _ hr (ob_c z2 (ob_c z1 (ob_c (by rw [e0]; rfl) ob_n))) hb (o1 (fun h => by cases h) (fun h => by cases h) h50) hp
     ·exact fin .f _ hr (ob_c (by simpa using e0) ob_n) hb (o1 (fun h => by cases h) (fun h => by cases h) h50) hp
set_option maxRecDepth 20000 in
theorem ed_t {pc:List SV} {n k:Nat} {q:E8} (hl:pc.length = n * 19) (hok:okPg pc n = true) (hn:n ≤ 20) (hq:q.Ok) (hk:k < 41):ObsOk (edOt EdN pc n (edV EdN q) (byF k)) := by
 have hP:edP pc n = pc := by unfold edP; rw [List.drop_zero,← hl,List.take_length]
 have K := okPg_ok hok
 obtain ⟨u0,u1,u2,u3,u4,u5⟩ := u6_in hq.u
 have hX:OneP (unV KkR (bwF mone64 one64 q.u.a0) (bwF mone64 one64 q.u.a1) (bwF d64 one64 q.u.a2)) := un_ok bwN1 bwN1 bwN2.1 bwN2.2
 have hY:OneP (unV KkR (bwF mone64 one64 q.u.a3) (bwF mone64 one64 q.u.a4) (bwF d64 one64 q.u.a5)) := un_ok bwN1 bwN1 bwN2.1 bwN2.2
 have bX:unB (bwF mone64 one64 q.u.a0) (bwF mone64 one64 q.u.a1) (bwF d64 one64 q.u.a2) = true := un_B bwN1 bwN1 bwN2.1 bwN2.2
 have bY:unB (bwF mone64 one64 q.u.a3) (bwF mone64 one64 q.u.a4) (bwF d64 one64 q.u.a5) = true := un_B bwN1 bwN1 bwN2.1 bwN2.2
 have zX := of_decide_eq_false (bw_up q.u.a2)
 have zY := of_decide_eq_false (bw_up q.u.a5)
 obtain ⟨x',y',z',⟨mx,ox⟩,⟨my,oy⟩,⟨mz,oz⟩,hu,wx,wy,wz⟩ := sc_ok hk (wn_bw u0) (wn_bw u1) (wn_bz q.u.a2)
 have bS := sc_B wx wy wz
 have zS:¬ z'.k ≤ z64.k := by
  have l := q_le.1 wz.lo
  have e := pw_k (e := 969) (by omega)
  have z0:z64.k = 0 := by decide +kernel
  have := P_pos
  omega
 have hV:edV EdN q = ⟨bwF mone64 one64 q.u.a0,bwF mone64 one64 q.u.a1,bwF d64 one64 q.u.a2,bwF mone64 one64 q.u.a3,bwF mone64 one64 q.u.a4,bwF d64 one64 q.u.a5⟩ := rfl
 have zN:(bwF d64 one64 q.u.a2).neg.k ≤ z64.k := by
  rw [F.neg_k]
  have z0:z64.k = 0 := by decide +kernel
  omega
 have bN:unB (bwF mone64 one64 q.u.a0) (bwF mone64 one64 q.u.a1) (bwF d64 one64 q.u.a2).neg = true := by
  have e:(bwF d64 one64 q.u.a2).neg.abs = (bwF d64 one64 q.u.a2).abs := F.ext' (by
   show (((bwF d64 one64 q.u.a2).neg.k.natAbs:Nat):Int) = ((bwF d64 one64 q.u.a2).k.natAbs:Nat)
   rw [F.neg_k]; omega)
  have e2:mostF (bwF mone64 one64 q.u.a0) (bwF mone64 one64 q.u.a1) (bwF d64 one64 q.u.a2).neg = mostF (bwF mone64 one64 q.u.a0) (bwF mone64 one64 q.u.a1) (bwF d64 one64 q.u.a2) := by unfold mostF; rw [e]
  unfold unB at bX ⊢
  rw [e2]; exact bX
 rw [hV]
 generalize bwF mone64 one64 q.u.a0 = x at *
 generalize bwF mone64 one64 q.u.a1 = y at *
 generalize bwF d64 one64 q.u.a2 = z at *
 generalize bwF mone64 one64 q.u.a3 = r at *
 generalize bwF mone64 one64 q.u.a4 = s at *
 generalize bwF d64 one64 q.u.a5 = t at *
 clear hV
 have e0:evE NeR (unV KkR x y z) (unV KkR r s t) pc n = 0 := evE_one hX hY K hn
 have wX := one_wd hX
 have wY := one_wd hY
 have oP:ObsOk ((evPs NeR (unV KkR x y z) (unV KkR r s t) pc n,true) :: (vcO (unV KkR r s t) ++ vcO (unV KkR x y z))) := ob_c (evPs_w K wX wY) (ob_a wY.dir wX.dir)
 have up:∀ {a b c:F},unB a b c = true → ¬ c.k ≤ z64.k → unV KkR a b c = unV KkR x y z → edLA EdN pc n ⟨x,y,z,r,s,t⟩ a b c = (EvR.g (unV KkR x y z) (unV KkR r s t) pc n,0) ∧ ObsOk (edLO EdN pc n ⟨x,y,z,r,s,t⟩ a b c) := by
  intro a b c hb hc he
  have f1:efV (unV KkR) unB a b c = unV KkR x y z := by unfold efV; rw [hb,cond_true,he]
  have f2:efE unB a b c = 0 := by unfold efE; rw [hb,cond_true]
  have f3:efV (unV KkR) unB r s t = unV KkR r s t := by unfold efV; rw [bY,cond_true]
  have f4:efE unB r s t = 0 := by unfold efE; rw [bY,cond_true]
  have f5:decide (c.k ≤ (toF 0).k) = false := decide_eq_false hc
  have f6:decide (t.k ≤ (toF 0).k) = false := decide_eq_false zY
  constructor
  ·show efR EvR (unV KkR) unB a b c r s t (edP pc n) n = _
   rw [hP]
   unfold efR
   rw [f1,f2,f3,f4,f5,f6]
   show (EvR.g (unV KkR x y z) (unV KkR r s t) pc n,evE NeR (unV KkR x y z) (unV KkR r s t) pc n) = _
   rw [e0]
  ·show ObsOk (efO EvR (unV KkR) unB a b c r s t (edP pc n) n)
   rw [hP]
   unfold efO
   rw [f1,f2,f3,f4,f5,f6]
   exact ob_c (decide_eq_true hl) (ob_c hok (ob_a ob_n oP))
 obtain ⟨A1,A2⟩ := up bX zX rfl
 obtain ⟨B1,B2⟩ := up bS zS hu
 have C:edLA EdN pc n ⟨x,y,z,r,s,t⟩ x y z.neg = (fun _ => zCh,0) ∧ ObsOk (edLO EdN pc n ⟨x,y,z,r,s,t⟩ x y z.neg) := by
  have f2:efE unB x y z.neg = 0 := by unfold efE; rw [bN,cond_true]
  have f4:efE unB r s t = 0 := by unfold efE; rw [bY,cond_true]
  have f5:decide (z.neg.k ≤ (toF 0).k) = true := decide_eq_true zN
  constructor
  ·show efR EvR (unV KkR) unB x y z.neg r s t (edP pc n) n = _
   unfold efR
   rw [f2,f4,f5]
   rfl
  ·show ObsOk (efO EvR (unV KkR) unB x y z.neg r s t (edP pc n) n)
   rw [hP]
   unfold efO
   rw [f2,f4,f5]
   exact ob_c (decide_eq_true hl) (ob_c hok (ob_a ob_n ob_n))
 obtain ⟨C1,C2⟩ := C
 unfold edOt
 simp only [mx,my,mz]
 rw [A1,B1,C1]
 have zk:(!decide (z.k = 0)) = true := by
  have z0:z64.k = 0 := by decide +kernel
  rw [decide_eq_false (by omega)]; rfl
 exact ob_c (eqLt_r _) (ob_c (eqLt_r _) (ob_c rfl (ob_c rfl (ob_c rfl (ob_a C2 (ob_c zk (ob_a B2 (ob_a oz (ob_a oy (ob_a ox (ob_a A2 ob_n)))))))))))
theorem ed_ok {pc:List SV} {n:Nat} {q:E8} (hl:pc.length = n * 19) (hok:okPg pc n = true) (hn:n ≤ 20) (hq:q.Ok):EdOk EdN pc n q (q.p.tmod 41).toNat := by
 have hp := hq.p
 have e:q.p.tmod 41 = q.p % 41 := Int.tmod_eq_emod_of_nonneg hp.1
 have h0:0 ≤ q.p % 41 := Int.emod_nonneg _ (by decide)
 have h1:q.p % 41 < 41 := Int.emod_lt_of_pos _ (by decide)
 have hk:(q.p.tmod 41).toNat < 41 := by omega
 exact ⟨ed_w hl hok hq,by omega,hk,fun j hj => (by_ok (by omega)).1,ed_t hl hok hn hq hk⟩
theorem evalDomain_someq {el:TypeId} {z:Nat × Nat} {cells:List SV} {off len cap:Nat} {q:E8} {m:Nms} {w:World} {vs:List Value} (hM:MemAt m w [⟨el,cells,.ro z⟩]) (hvs:dens m (.ssl 0 off len cap :: q.args) = some vs)
  (hc:len ≤ cap) (hb:prInB NprR ((cells.drop off).take (len * 8)) len = true) (hq:q.Ok) :
  Calls Tryz.prog 4 vs.toArray w fun e w' => e = .returned (.bool true) ∧ Below w.heap.size w w' := by
 obtain ⟨a,b⟩ := prog_ok hb
 exact ed_calls oracleEd hM hvs hc hb (ed_ok (prgC_len _ _ _) a (by omega) hq)
theorem evalDomain_noneq {q:E8} {w:World} {vs:List Value} (hvs:dens Nms.no (.o (.slice none 0 0) :: q.args) = some vs) (hq:q.Ok) :
  Calls Tryz.prog 4 vs.toArray w fun e w' => e = .returned (.bool true) ∧ Below w.heap.size w w' := by
 obtain ⟨a,b⟩ := prog_ok (cs := []) (len := 0) rfl
 exact ed_nil oracleEd hvs (ed_ok (prgC_len _ _ _) a (by omega) hq)
theorem u8_in {n:Int} (h:(Lit.int .u8 n).wf = true):0 ≤ n ∧ n ≤ 255 := by simpa [Lit.wf,IntKind.min,IntKind.max,IntKind.signed,IntKind.bits] using h
theorem evalDomain_some {el:TypeId} {z0:Nat × Nat} {cells:List SV} {off len cap:Nat} {x y z r s t:Nat} {u:U6} {p:Int} {m:Nms} {w:World} {vs:List Value} (hM:MemAt m w [⟨el,cells,.ro z0⟩]) (hvs:dens m [.ssl 0 off len cap,.agg [.f x,.f y,.f z],.agg [.f r,.f s,.f t],u.sv,.si .u8 p] = some vs)
  (hc:len ≤ cap) (hb:prInB NprR ((cells.drop off).take (len * 8)) len = true) (hx:x < 18446744073709551616) (hy:y < 18446744073709551616) (hz:z < 18446744073709551616) (hr:r < 18446744073709551616) (hs:s < 18446744073709551616) (ht:t < 18446744073709551616) (hu:u.ok = true) (hp:(Lit.int .u8 p).wf = true) :
  Calls Tryz.prog 4 vs.toArray w fun e w' => e = .returned (.bool true) ∧ Below w.heap.size w w' := evalDomain_someq (q := ⟨x,y,z,r,s,t,u,p⟩) hM hvs hc hb ⟨hx,hy,hz,hr,hs,ht,hu,u8_in hp⟩
theorem evalDomain_none {x y z r s t:Nat} {u:U6} {p:Int} {w:World} {vs:List Value} (hvs:dens Nms.no [.o (.slice none 0 0),.agg [.f x,.f y,.f z],.agg [.f r,.f s,.f t],u.sv,.si .u8 p] = some vs) (hx:x < 18446744073709551616) (hy:y < 18446744073709551616) (hz:z < 18446744073709551616) (hr:r < 18446744073709551616) (hs:s < 18446744073709551616) (ht:t < 18446744073709551616) (hu:u.ok = true) (hp:(Lit.int .u8 p).wf = true) :
  Calls Tryz.prog 4 vs.toArray w fun e w' => e = .returned (.bool true) ∧ Below w.heap.size w w' := evalDomain_noneq (q := ⟨x,y,z,r,s,t,u,p⟩) hvs ⟨hx,hy,hz,hr,hs,ht,hu,u8_in hp⟩
end Go.Proofs.YthclipfgcgoofaaGreat
