/- The nearest sum, and difference: as rounding. TrigParts, plain: how far a part's sine and .. -/
import Derived.Test.YtejcekikbnlllaaGreatT06
import Derived.Test.YtejcekikbnlllaaGreatT01
set_option linter.all false
namespace Bu
open Rx Go Ieee
structure Nr (D:F) (v:Rat):Prop where
 up:∀ c:F,v ≤ c.q → D.q ≤ c.q
 dn:∀ c:F,c.q ≤ v → c.q ≤ D.q
theorem z_lt_q {a:F} {d:Int}:a.z ≤ d ↔ a.q ≤ (d:Rat) / (S:Rat) := by
 have h := @z_le_iff a d 1 (by decide)
 rw [show ((1:Nat):Int) = 1 from rfl,Int.mul_one,show ((1:Nat):Rat) = 1 from rfl,Rat.mul_one] at h
 exact h
theorem z_gt_q {a:F} {d:Int}:d ≤ a.z ↔ (d:Rat) / (S:Rat) ≤ a.q := by
 have h := @rat_le_iff a d 1 (by decide)
 rw [show ((1:Nat):Int) = 1 from rfl,Int.mul_one,show ((1:Nat):Rat) = 1 from rfl,Rat.mul_one] at h
 exact h
theorem nvk {c:F} (h:0 ≤ c.k):(nv c.k.natAbs:Int) = c.z := by
 have e := nvZ_natCast c.k.natAbs
 have:((c.k.natAbs:Nat):Int) = c.k := by omega
 rw [this] at e
 exact e.symm
theorem nr_of {d:Int} {g:F} (hd:d ≠ 0) (hg:(d.natAbs:Int) ≤ g.z):∃ D:F,double.word (decide (d < 0)) (min (near d.natAbs 1) T) = D.b ∧ Nr D ((d:Rat) / (S:Rat)) := by
 have hg0:0 ≤ g.k := by
  have:0 < g.z := by omega
  have a := z_sign g; have b := z_zero g
  omega
 have hT := g.hk
 have key:∀ c:F,0 ≤ c.k → ((d.natAbs:Int) ≤ c.z → near d.natAbs 1 ≤ c.k.natAbs) ∧ (c.z ≤ (d.natAbs:Int) → c.k.natAbs ≤ near d.natAbs 1) := by
  intro c hc
  have e := nvk hc
  exact ⟨fun h => near_le (by decide) (by omega),fun h => le_near (by decide) (by omega)⟩
 have k0 := (key g hg0).1 hg
 have hpos:1 ≤ near d.natAbs 1 := by
  have h1:nv 1 = 1 := by decide
  exact le_near (by decide) (by rw [h1]; omega)
 rw [Nat.min_eq_left (by omega)]
 rcases Int.lt_or_gt_of_ne hd with h | h
 ·rw [decide_eq_true h,word_F _ _ (by omega) (by intro _; omega),if_pos rfl]
  refine ⟨_,rfl,?_,?_⟩
  ·intro c hc
   rw [← z_gt_q] at hc
   rw [q_le,F.of_k (by omega)]
   rcases (show c.k < 0 ∨ 0 ≤ c.k by omega) with s | s
   ·have := (key c.neg (by rw [F.neg_k]; omega)).2 (by rw [F.neg_z]; omega)
    rw [F.neg_k] at this; omega
   ·omega
  ·intro c hc
   rw [← z_lt_q] at hc
   rw [q_le,F.of_k (by omega)]
   have a := z_sign c
   have := (key c.neg (by rw [F.neg_k]; omega)).1 (by rw [F.neg_z]; omega)
   rw [F.neg_k] at this; omega
 ·rw [decide_eq_false (by omega),word_F _ _ (by omega) (by simp),if_neg (by decide)]
  refine ⟨_,rfl,?_,?_⟩
  ·intro c hc
   rw [← z_gt_q] at hc
   rw [q_le,F.of_k (by omega)]
   have a := z_sign c; have b := z_zero c
   have := (key c (by omega)).1 (by omega)
   omega
  ·intro c hc
   rw [← z_lt_q] at hc
   rw [q_le,F.of_k (by omega)]
   rcases (show c.k < 0 ∨ 0 ≤ c.k by omega) with s | s
   ·omega
   ·have := (key c s).2 (by omega)
    omega
theorem nr_zero:Nr F.zero 0 := ⟨fun c h => by rw [q_zero]; exact h,fun c h => by rw [q_zero]; exact h⟩
theorem z_diff' {x y c:F} (h:x.q - y.q ≤ c.q):x.z - y.z ≤ c.z := by
 have h1 := Rat.mul_nonneg (show 0 ≤ c.q - (x.q - y.q) by grind) (Rat.le_of_lt S_gt)
 have e1 := F.q_mul x; have e2 := F.q_mul y; have e3 := F.q_mul c
 have h2:((x.z - y.z:Int):Rat) ≤ ((c.z:Int):Rat) := by
  rw [Rat.intCast_sub,← e1,← e2,← e3]
  generalize (S:Rat) = s at *
  grind
 exact Rat.intCast_le_intCast.1 h2
theorem sub_nr {x y g:F} (h1:x.q - y.q ≤ g.q) (h2:y.q - x.q ≤ g.q):∃ D:F,double.sub x.b y.b = some D.b ∧ Nr D (x.q - y.q) := by
 have e:x.q - y.q = ((x.z - y.z:Int):Rat) / (S:Rat) := by have := sub_v x y; rw [show ((1:Nat):Rat) = 1 from rfl,Rat.mul_one] at this; exact this.symm
 rw [sub_F]
 by_cases c:x.z - y.z = 0
 ·rw [if_pos c,e,c]
  refine ⟨F.zero,rfl,?_⟩
  rw [show ((0:Int):Rat) = 0 from rfl,Rat.div_def,Rat.zero_mul]
  exact nr_zero
 ·have a1 := z_diff' h1; have a2 := z_diff' h2
  obtain ⟨D,d1,d2⟩ := nr_of (g := g) c (by omega)
  rw [if_neg c,d1,e]
  exact ⟨D,rfl,d2⟩
theorem add_nr {x y g:F} (h1:x.q + y.q ≤ g.q) (h2:-(x.q + y.q) ≤ g.q):∃ D:F,double.add x.b y.b = some D.b ∧ Nr D (x.q + y.q) := by
 have e:x.q + y.q = ((x.z + y.z:Int):Rat) / (S:Rat) := by have := add_v x y; rw [show ((1:Nat):Rat) = 1 from rfl,Rat.mul_one] at this; exact this.symm
 have a1:x.z + y.z ≤ g.z := by have := z_diff' (x := x) (y := y.neg) (c := g) (by rw [q_neg]; grind); rw [F.neg_z] at this; omega
 have a2:-(x.z + y.z) ≤ g.z := by have := z_diff' (x := x.neg) (y := y) (c := g) (by rw [q_neg]; grind); rw [F.neg_z] at this; omega
 rw [add_F]
 by_cases c:x.z + y.z = 0
 ·rw [if_pos c,e,c]
  refine ⟨F.zero,rfl,?_⟩
  rw [show ((0:Int):Rat) = 0 from rfl,Rat.div_def,Rat.zero_mul]
  exact nr_zero
 ·obtain ⟨D,d1,d2⟩ := nr_of (g := g) c (by omega)
  rw [if_neg c,d1,e]
  exact ⟨D,rfl,d2⟩
end Bu
namespace Bu
open Rx Go
theorem Nr.eq {D c:F} {v:Rat} (h:Nr D v) (hc:c.q = v):D.q = v := by
 have a := h.up c (by rw [hc]; exact Rat.le_refl)
 have b := h.dn c (by rw [hc]; exact Rat.le_refl)
 grind
def sf (s:Option Nat):F := toF (s.getD 0)
def so (s:Option Nat):Obs := [(s.isSome,true),(rightB (s.getD 0),true)]
theorem so_ok {s:Option Nat} {D:F} (h:s = some D.b):obsB (so s) = true ∧ sf s = D := by
 subst h
 refine ⟨?_,toF_F D⟩
 unfold so obsB
 rw [List.all_cons,List.all_cons,Option.isSome_some,Option.getD_some,right_F]; rfl
structure Kp where
 ib:I → Bool
 si:I → I
 co:I → I
 bt:F → F → Int → F
 u:Int → Bool
 me:I → I → Bool
 neg:Int → I → I × Int
 ld:F → Int → F
 lo:F → Int → Bool
def fad (x y:F):Option Nat := Ieee.double.add x.b y.b
def fsu (x y:F):Option Nat := Ieee.double.sub x.b y.b
def tG (x:F):F := sf (fsu one64 x)
def tH (x:F):F := sf (fsu one64 (tG x))
def eT (N:Kp) (x:F):Int := (N.neg (N.neg 0 (N.si ⟨x,x⟩)).2 (N.co ⟨x,x⟩)).2
def eA (N:Kp) (x:F) (e:Int):Int := (N.neg e (N.si ⟨x,x⟩)).2
structure N1 (x:F):Prop where
 lo:-1 ≤ x.q
 hi:x.q ≤ 1
theorem ob2 {a b:Obs} (ha:obsB a = true) (hb:obsB b = true):obsB (a ++ b) = true := by rw [obsB_app,ha,hb]; rfl
theorem twice_F {x:F} (h0:0 ≤ x.k) (h1:x.q ≤ 1 / 2):∃ D:F,D.z = 2 * x.z := by
 obtain ⟨_,_,_,_,_,g2,_,_⟩ := consts
 have k2:q2.k = 4602678819172646912 := by decide +kernel
 have hk:x.k ≤ q2.k := q_le.1 (by grind)
 have hP:P = 4503599627370496 := rfl
 have hT := T_num
 obtain ⟨r,hr⟩ := Int.eq_ofNat_of_zero_le h0
 have e1:x.z = (nv r:Int) := by
  have e := nvZ_natCast r
  have:x.z = nvZ x.k := rfl
  rw [this,hr]; exact e
 have key:∃ r':Nat,nv r' = 2 * nv r ∧ r' < T := by
  by_cases hlt:r < P
  ·refine ⟨0 * P + 2 * r,?_,by omega⟩
   rw [nv_mk 0 (2 * r) (by omega) (.inl rfl)]
   have := nv_mk 0 r (by omega) (.inl rfl)
   rw [Nat.zero_mul,Nat.zero_add] at this
   rw [this]; omega
  ·refine ⟨(r / P - 1 + 1) * P + (P + r % P),?_,?_⟩
   ·have hm:r % P < P := Nat.mod_lt _ P_pos
    rw [nv_mk _ _ (by omega) (.inr (by omega)),nv_norm (by omega),Nat.pow_succ]; 
    generalize 2 ^ (r / P - 1) = u
    grind
   ·have := Nat.div_add_mod r P
    have hm:r % P < P := Nat.mod_lt _ P_pos
    have hd:1 ≤ r / P := by rw [hP]; omega
    rw [hP] at *
    omega
 obtain ⟨r',e2,e3⟩ := key
 refine ⟨F.of (r':Int),?_⟩
 have e:(F.of (r':Int)).z = (nv r':Int) := by
  have e := nvZ_natCast r'
  have:(F.of (r':Int)).z = nvZ (F.of (r':Int)).k := rfl
  rw [this,F.of_k (by omega)]; exact e
 rw [e,e1,e2]; omega
def two64:F := toF 4611686018427387904
def fmu (x y:F):Option Nat := Ieee.double.mul x.b y.b
set_option maxRecDepth 100000 in
theorem two_z:decide (two64.z = 2 * (S:Int)) = true := by decide +kernel
theorem fmu_zero:fmu two64 F.zero = some F.zero.b := by decide +kernel
theorem twice_ok {x:F} (h0:0 ≤ x.k) (h1:x.q ≤ 1 / 2):∃ D:F,fmu two64 x = some D.b ∧ D.q = 2 * x.q := by
 obtain ⟨D,hD⟩ := twice_F h0 h1
 have hq:D.q = 2 * x.q := by
  unfold F.q
  rw [hD,Rat.intCast_mul,Rat.div_def,Rat.div_def,show ((2:Int):Rat) = 2 from rfl]; grind
 by_cases hx:x.k = 0
 ·have e:x = F.zero := F.ext' hx
  subst e
  refine ⟨F.zero,fmu_zero,?_⟩
  rw [q_zero]; grind
 ·refine ⟨D,?_,hq⟩
  have hk:D.k ≠ 0 := by
   intro h
   have a := (z_zero D).2 h
   have b := z_zero x
   have:x.z = 0 := by omega
   exact hx (b.1 this)
  refine mul_exact hk ?_
  rw [hD,of_decide_eq_true two_z]
  grind
structure Kh where
 ib:I → Bool
 si:I → I
 co:I → I
 me:I → I → Bool
 add:Int → I → I → I × Int
 sub:Int → I → I → I × Int
 mul:Int → I → I → I × Int
 div:Int → I → I → I × Int
 max:Int → I → I → I × Int
 sqr:Int → I → I × Int
 sqrt:Int → I → I × Int
 num:Int → F → I × Int
def fdv (x y:F):Option Nat := Ieee.double.div x.b y.b
def hT (N:Kh):I × Int := N.num 0 two64
def hM1 (N:Kh) (u:I):I × Int := N.mul (hT N).2 (N.si u) (N.co u)
def hM2 (N:Kh) (u:I):I × Int := N.mul (hM1 N u).2 (hT N).1 (hM1 N u).1
def hQ1 (N:Kh) (u:I):I × Int := N.sqr (hM2 N u).2 (N.co u)
def hQ2 (N:Kh) (u:I):I × Int := N.sqr (hQ1 N u).2 (N.si u)
def hD (N:Kh) (u:I):I × Int := N.sub (hQ2 N u).2 (hQ1 N u).1 (hQ2 N u).1
def hB (N:Kh) (u v:I):Obs := [(!((hD N u).2 == 0),false),(N.me (N.co v) (hD N u).1,true),(N.me (N.si v) (hM2 N u).1,true),(N.ib v,true)]
def hP (f:Int → I → I → I × Int) (N:Kh) (t C:I) (e:Int):I × Int :=
 N.max (N.num (N.div (f (N.num e one64).2 (N.num e one64).1 C).2 (f (N.num e one64).2 (N.num e one64).1 C).1 t).2 (toF 0)).2 (N.div (f (N.num e one64).2 (N.num e one64).1 C).2 (f (N.num e one64).2 (N.num e one64).1 C).1 t).1 (N.num (N.div (f (N.num e one64).2 (N.num e one64).1 C).2 (f (N.num e one64).2 (N.num e one64).1 C).1 t).2 (toF 0)).1
def RD (v:Rat) (p:F × Int):Prop := (p.2 = 0 ∧ Dn p.1 v) ∨ (p.2 = 10 ∧ ∀ c:F,v < c.q)
def RU (v:Rat) (p:F × Int):Prop := (p.2 = 0 ∧ Up p.1 v) ∨ (p.2 = 10 ∧ ∀ c:F,c.q < v)
theorem rndR_RD {A:Int} {B:Nat} {v:Rat} (hB:0 < B) (hv:(A:Rat) / ((S:Rat) * (B:Rat)) = v):RD v (rndR false A B) := by
 by_cases h:∃ c:F,c.q ≤ v
 ·obtain ⟨c,hc⟩ := h
  obtain ⟨r,e,d⟩ := rndR_dn hB hv c hc
  rw [e]; exact .inl ⟨rfl,d⟩
 ·refine .inr ⟨?_,fun c => Rat.not_le.1 fun k => h ⟨c,k⟩⟩
  have hT := T_num
  have hk:∀ x:F,x.k ≤ flI A B ↔ x.q ≤ (A:Rat) / ((S:Rat) * (B:Rat)) := fun x => by rw [le_flI hB,← z_le_iff hB]; rfl
  have h1:¬ (F.of (-((T:Int) - 1))).k ≤ flI A B := fun k => h ⟨_,by rw [← hv]; exact (hk _).1 k⟩
  rw [F.of_k (by omega)] at h1
  show (outDn (flI A B)).2 = 10
  unfold outDn
  rw [if_pos (by omega)]
theorem rndR_RU {A:Int} {B:Nat} {v:Rat} (hB:0 < B) (hv:(A:Rat) / ((S:Rat) * (B:Rat)) = v):RU v (rndR true A B) := by
 by_cases h:∃ c:F,v ≤ c.q
 ·obtain ⟨c,hc⟩ := h
  obtain ⟨r,e,d⟩ := rndR_up hB hv c hc
  rw [e]; exact .inl ⟨rfl,d⟩
 ·refine .inr ⟨?_,fun c => Rat.not_le.1 fun k => h ⟨c,k⟩⟩
  have hT := T_num
  have hk:∀ x:F,ceI A B ≤ x.k ↔ (A:Rat) / ((S:Rat) * (B:Rat)) ≤ x.q := fun x => by rw [ceI_le hB,← rat_le_iff hB]; rfl
  have h1:¬ ceI A B ≤ (F.of ((T:Int) - 1)).k := fun k => h ⟨_,by rw [← hv]; exact (hk _).1 k⟩
  rw [F.of_k (by omega)] at h1
  show (outUp (ceI A B)).2 = 10
  unfold outUp
  rw [if_pos (by omega)]
theorem dAdd_RD (a b:F):RD (a.q + b.q) (dAdd false a b) := rndR_RD (by decide) (add_v a b)
theorem dAdd_RU (a b:F):RU (a.q + b.q) (dAdd true a b) := rndR_RU (by decide) (add_v a b)
theorem dSub_RD (a b:F):RD (a.q - b.q) (dSub false a b) := rndR_RD (by decide) (sub_v a b)
theorem dSub_RU (a b:F):RU (a.q - b.q) (dSub true a b) := rndR_RU (by decide) (sub_v a b)
theorem dMul_RD (a b:F):RD (a.q * b.q) (dMul false a b) := rndR_RD S_pos (mul_v a b)
theorem dMul_RU (a b:F):RU (a.q * b.q) (dMul true a b) := rndR_RU S_pos (mul_v a b)
theorem pDiv_RD {a b:F} (hb:b.k ≠ 0):RD (a.q / b.q) (pDiv false a b) := by
 unfold pDiv
 rw [if_neg hb]
 exact rndR_RD (by have := z_zero b; omega) (div_v a b hb)
theorem pDiv_RU {a b:F} (hb:b.k ≠ 0):RU (a.q / b.q) (pDiv true a b) := by
 unfold pDiv
 rw [if_neg hb]
 exact rndR_RU (by have := z_zero b; omega) (div_v a b hb)
theorem RD.ok {v:Rat} {p:F × Int} (h:RD v p) (e:p.2 = 0):Dn p.1 v := by
 rcases h with h | h
 ·exact h.2
 ·have := h.1; omega
theorem RU.ok {v:Rat} {p:F × Int} (h:RU v p) (e:p.2 = 0):Up p.1 v := by
 rcases h with h | h
 ·exact h.2
 ·have := h.1; omega
theorem RD.has {v:Rat} {p:F × Int} (h:RD v p) {c:F} (hc:c.q ≤ v):p.2 = 0 ∧ c.q ≤ p.1.q := by
 rcases h with h | h
 ·exact ⟨h.1,h.2.top c hc⟩
 ·exact absurd (h.2 c) (Rat.not_lt.2 hc)
theorem RU.has {v:Rat} {p:F × Int} (h:RU v p) {c:F} (hc:v ≤ c.q):p.2 = 0 ∧ p.1.q ≤ c.q := by
 rcases h with h | h
 ·exact ⟨h.1,h.2.bot c hc⟩
 ·exact absurd (h.2 c) (Rat.not_lt.2 hc)
def Er (e:Int):Prop := e = 0 ∨ e = 10 ∨ e = 11
theorem RD.er {v:Rat} {p:F × Int} (h:RD v p):Er p.2 := by rcases h with h | h; exact .inl h.1; exact .inr (.inl h.1)
theorem RU.er {v:Rat} {p:F × Int} (h:RU v p):Er p.2 := by rcases h with h | h; exact .inl h.1; exact .inr (.inl h.1)
theorem ends_0 {p q:F × Int} (h:(endsI p q).2 = 0):p.2 = 0 ∧ q.2 = 0 ∧ endsI p q = (⟨p.1,q.1⟩,0) := by
 unfold endsI at *
 by_cases k:p.2 = 0
 ·rw [k] at h ⊢
  have h':q.2 = 0 := h
  exact ⟨rfl,h',by rw [h']; rfl⟩
 ·have e:(!(p.2 == 0)) = true := by simp [k]
  rw [e] at h
  exact absurd h k
theorem ends_er {p q:F × Int} (h:Er p.2) (k:Er q.2):Er (endsI p q).2 := by
 unfold endsI
 cases (!(p.2 == 0))
 ·exact k
 ·exact h
theorem ask_0 {e:Int} {g:Bool} {r:I × Int} (h:(askI e g r).2 = 0):e = 0 ∧ g = true ∧ r.2 = 0 ∧ askI e g r = (r.1,0) := by
 unfold askI at *
 by_cases k:e = 0
 ·subst k
  cases g
  ·exact absurd (show (20:Int) = 0 from h) (by decide)
  ·by_cases l:r.2 = 0
   ·rw [l]; exact ⟨rfl,rfl,rfl,rfl⟩
   ·have e:(!(r.2 == 0)) = true := by simp [l]
    rw [e] at h
    exact absurd h l
 ·have f:(!(e == 0)) = true := by simp [k]
  rw [f] at h
  exact absurd h k
theorem ask_kept {e:Int} (he:e ≠ 0) (g:Bool) (r:I × Int):askI e g r = (I.zero,e) := by
 unfold askI
 have f:(!(e == 0)) = true := by simp [he]
 rw [f]; rfl
theorem ask_er {e:Int} {g:Bool} {r:I × Int} (h:Er e) (hg:g = true) (k:Er r.2):Er (askI e g r).2 := by
 subst hg
 by_cases k0:e = 0
 ·subst k0
  by_cases l:r.2 = 0
  ·have:askI 0 true r = (r.1,0) := by unfold askI; rw [l]; rfl
   rw [this]; exact .inl rfl
  ·have:askI 0 true r = (I.zero,r.2) := by
    have e:(!(r.2 == 0)) = true := by simp [l]
    unfold askI; rw [e]; rfl
   rw [this]; exact k
 ·rw [ask_kept k0]; exact h
theorem then_0 {r:I × Int} {g:I → I × Int} (h:(thenI r g).2 = 0):r.2 = 0 ∧ (g r.1).2 = 0 ∧ thenI r g = g r.1 := by
 unfold thenI at *
 by_cases k:r.2 = 0
 ·rw [k] at h ⊢
  exact ⟨rfl,h,rfl⟩
 ·have e:(!(r.2 == 0)) = true := by simp [k]
  rw [e] at h
  exact absurd h k
theorem then_er {r:I × Int} {g:I → I × Int} (h:Er r.2) (k:Er (g r.1).2):Er (thenI r g).2 := by
 unfold thenI
 cases (!(r.2 == 0))
 ·exact k
 ·exact h
structure Four (f:Bool → F → F → F × Int) (a b:I) (p q s t:Rat):Prop where
 d1:RD p (f false a.lo b.lo)
 u1:RU p (f true a.lo b.lo)
 d2:RD q (f false a.lo b.hi)
 u2:RU q (f true a.lo b.hi)
 d3:RD s (f false a.hi b.lo)
 u3:RU s (f true a.hi b.lo)
 d4:RD t (f false a.hi b.hi)
 u4:RU t (f true a.hi b.hi)
theorem all_0 {f:Bool → F → F → F × Int} {a b:I} {p q s t:Rat} (k:Four f a b p q s t) (h:(allI f a b).2 = 0):AllR (allI f a b).1 p q s t := by
 unfold allI at h
 obtain ⟨h1,g1,_⟩ := then_0 h
 obtain ⟨h2,g2,_⟩ := then_0 g1
 obtain ⟨h3,g3,_⟩ := then_0 g2
 obtain ⟨h4,_,_⟩ := then_0 g3
 have ex:∀ {x y:F} {v:Rat},(oneI f x y).2 = 0 → RD v (f false x y) → RU v (f true x y) → (∃ r,f false x y = (r,0) ∧ Dn r v) ∧ ∃ r,f true x y = (r,0) ∧ Up r v := by
  intro x y v h d u
  obtain ⟨e1,e2,_⟩ := ends_0 h
  exact ⟨⟨_,by rw [← e1],d.ok e1⟩,⟨_,by rw [← e2],u.ok e2⟩⟩
 obtain ⟨r,e,hr⟩ := allI_ok (ex h1 k.d1 k.u1) (ex h2 k.d2 k.u2) (ex h3 k.d3 k.u3) (ex h4 k.d4 k.u4)
 rw [e]; exact hr
theorem all_er {f:Bool → F → F → F × Int} {a b:I} {p q s t:Rat} (k:Four f a b p q s t):Er (allI f a b).2 := by
 unfold allI
 refine then_er (ends_er k.d1.er k.u1.er) (then_er (ends_er k.d2.er k.u2.er) (then_er (ends_er k.d3.er k.u3.er) (then_er (ends_er k.d4.er k.u4.er) (.inl rfl))))
theorem all_has {f:Bool → F → F → F × Int} {a b:I} {p q s t:Rat} (k:Four f a b p q s t) {c d:F} (c1:c.q ≤ p) (c2:c.q ≤ q) (c3:c.q ≤ s) (c4:c.q ≤ t) (d1:p ≤ d.q) (d2:q ≤ d.q) (d3:s ≤ d.q) (d4:t ≤ d.q) :
  ∃ r,allI f a b = (r,0) ∧ AllR r p q s t ∧ c.q ≤ r.lo.q ∧ r.hi.q ≤ d.q := by
 have ex:∀ {x y:F} {v:Rat},RD v (f false x y) → RU v (f true x y) → c.q ≤ v → v ≤ d.q → (∃ r,f false x y = (r,0) ∧ Dn r v) ∧ ∃ r,f true x y = (r,0) ∧ Up r v := by
  intro x y v h u hc hd
  have e1 := (h.has hc).1
  have e2 := (u.has hd).1
  exact ⟨⟨_,by rw [← e1],h.ok e1⟩,⟨_,by rw [← e2],u.ok e2⟩⟩
 obtain ⟨r,e,hr⟩ := allI_ok (ex k.d1 k.u1 c1 d1) (ex k.d2 k.u2 c2 d2) (ex k.d3 k.u3 c3 d3) (ex k.d4 k.u4 c4 d4)
 exact ⟨r,e,hr,hr.top c1 c2 c3 c4,hr.bot d1 d2 d3 d4⟩
theorem mul_four (a b:I):Four dMul a b (a.lo.q * b.lo.q) (a.lo.q * b.hi.q) (a.hi.q * b.lo.q) (a.hi.q * b.hi.q) :=
 ⟨dMul_RD _ _,dMul_RU _ _,dMul_RD _ _,dMul_RU _ _,dMul_RD _ _,dMul_RU _ _,dMul_RD _ _,dMul_RU _ _⟩
theorem no_zero {b:I} (hr:rt b = true) (h:hasB b F.zero = false):0 < b.lo.q ∨ b.hi.q < 0 := by
 unfold hasB at h
 rw [hr,Bool.true_and,Bool.and_eq_false_iff,decide_eq_false_iff_not,decide_eq_false_iff_not] at h
 rcases h with h | h
 ·left; rw [← q_zero]; exact q_lt.2 (by omega)
 ·right; rw [← q_zero]; exact q_lt.2 (by omega)
theorem rt_le {a:I} (h:rt a = true):a.lo.q ≤ a.hi.q := q_le.2 (of_decide_eq_true h)
theorem k_ne {x:F} (h:x.q ≠ 0):x.k ≠ 0 := fun k => h (by rw [F.ext' (b := F.zero) k,q_zero])
theorem div_four {a b:I} (hr:rt b = true) (h:hasB b F.zero = false):Four pDiv a b (a.lo.q / b.lo.q) (a.lo.q / b.hi.q) (a.hi.q / b.lo.q) (a.hi.q / b.hi.q) := by
 have n := no_zero hr h
 have l := rt_le hr
 have h1:b.lo.k ≠ 0 := k_ne (by rcases n with n | n <;> grind)
 have h2:b.hi.k ≠ 0 := k_ne (by rcases n with n | n <;> grind)
 exact ⟨pDiv_RD h1,pDiv_RU h1,pDiv_RD h2,pDiv_RU h2,pDiv_RD h1,pDiv_RU h1,pDiv_RD h2,pDiv_RU h2⟩
theorem both {a b:Bool} (h:(a && b) = true):a = true ∧ b = true := by rwa [Bool.and_eq_true] at h
theorem add_0 {e:Int} {a b:I} (h:(cAdd dAdd e a b).2 = 0):e = 0 ∧ rt a = true ∧ rt b = true ∧ (cAdd dAdd e a b) = ((cAdd dAdd e a b).1,0) ∧ Dn (cAdd dAdd e a b).1.lo (a.lo.q + b.lo.q) ∧ Up (cAdd dAdd e a b).1.hi (a.hi.q + b.hi.q) := by
 unfold cAdd at h ⊢
 obtain ⟨h0,h1,h2,h3⟩ := ask_0 h
 obtain ⟨g1,g2,g3⟩ := ends_0 h2
 rw [h3,g3]
 exact ⟨h0,(both h1).1,(both h1).2,rfl,(dAdd_RD _ _).ok g1,(dAdd_RU _ _).ok g2⟩
theorem sub_0 {e:Int} {a b:I} (h:(cSub dSub e a b).2 = 0):e = 0 ∧ rt a = true ∧ rt b = true ∧ (cSub dSub e a b) = ((cSub dSub e a b).1,0) ∧ Dn (cSub dSub e a b).1.lo (a.lo.q - b.hi.q) ∧ Up (cSub dSub e a b).1.hi (a.hi.q - b.lo.q) := by
 unfold cSub at h ⊢
 obtain ⟨h0,h1,h2,h3⟩ := ask_0 h
 obtain ⟨g1,g2,g3⟩ := ends_0 h2
 rw [h3,g3]
 exact ⟨h0,(both h1).1,(both h1).2,rfl,(dSub_RD _ _).ok g1,(dSub_RU _ _).ok g2⟩
theorem mul_0 {e:Int} {a b:I} (h:(cMul dMul e a b).2 = 0):e = 0 ∧ rt a = true ∧ rt b = true ∧ (cMul dMul e a b) = ((cMul dMul e a b).1,0) ∧ AllR (cMul dMul e a b).1 (a.lo.q * b.lo.q) (a.lo.q * b.hi.q) (a.hi.q * b.lo.q) (a.hi.q * b.hi.q) := by
 unfold cMul at h ⊢
 obtain ⟨h0,h1,h2,h3⟩ := ask_0 h
 rw [h3]
 exact ⟨h0,(both h1).1,(both h1).2,rfl,all_0 (mul_four a b) h2⟩
theorem div_0 {e:Int} {a b:I} (h:(cDiv pDiv e a b).2 = 0):e = 0 ∧ rt a = true ∧ rt b = true ∧ hasB b F.zero = false ∧ (cDiv pDiv e a b) = ((cDiv pDiv e a b).1,0) ∧ AllR (cDiv pDiv e a b).1 (a.lo.q / b.lo.q) (a.lo.q / b.hi.q) (a.hi.q / b.lo.q) (a.hi.q / b.hi.q) := by
 unfold cDiv at h ⊢
 obtain ⟨h0,h1,h2,h3⟩ := ask_0 h
 rw [h3]
 cases k:hasB b F.zero
 ·rw [k] at h2
  exact ⟨h0,(both h1).1,(both h1).2,rfl,rfl,all_0 (div_four (both h1).2 k) h2⟩
 ·rw [k] at h2
  exact absurd (show (11:Int) = 0 from h2) (by decide)
theorem sqr_0 {e:Int} {a:I} (h:(cSqr dMul e a).2 = 0):e = 0 ∧ rt a = true ∧ (cSqr dMul e a) = ((cSqr dMul e a).1,0) ∧ Dn (cSqr dMul e a).1.lo ((bareI a).lo.q * (bareI a).lo.q) ∧ Up (cSqr dMul e a).1.hi ((bareI a).hi.q * (bareI a).hi.q) := by
 unfold cSqr at h ⊢
 obtain ⟨h0,h1,h2,h3⟩ := ask_0 h
 obtain ⟨g1,g2,g3⟩ := ends_0 h2
 rw [h3,g3]
 exact ⟨h0,h1,rfl,(dMul_RD _ _).ok g1,(dMul_RU _ _).ok g2⟩
theorem qSqrt_nn {up:Bool} {a:F} (h:(qSqrt up a).2 = 0):0 ≤ a.q := by
 apply Rat.not_lt.1
 intro g
 have hk:a.k < 0 := by have := q_lt.1 (show a.q < F.zero.q by rw [q_zero]; exact g); exact this
 unfold qSqrt at h
 rw [if_pos hk] at h
 exact absurd h (by decide)
theorem sqrt_0 {e:Int} {a:I} (h:(cSqrt qSqrt e a).2 = 0):e = 0 ∧ rt a = true ∧ 0 ≤ a.lo.q ∧ (cSqrt qSqrt e a) = ((cSqrt qSqrt e a).1,0) ∧ SqD (cSqrt qSqrt e a).1.lo a.lo ∧ SqU (cSqrt qSqrt e a).1.hi a.hi := by
 unfold cSqrt at h ⊢
 obtain ⟨h0,h1,h2,h3⟩ := ask_0 h
 obtain ⟨g1,g2,g3⟩ := ends_0 h2
 have l := qSqrt_nn g1
 have r := rt_le h1
 obtain ⟨x,e1,s1⟩ := (qSqrt_gen l).1
 obtain ⟨y,e2,s2⟩ := (qSqrt_gen (a := a.hi) (by grind)).2
 rw [h3,g3,e1,e2]
 exact ⟨h0,h1,l,rfl,s1,s2⟩
theorem neg_0 {e:Int} {a:I} (h:(cNeg e a).2 = 0):e = 0 ∧ rt a = true ∧ cNeg e a = (turnI a,0) := by
 unfold cNeg at h ⊢
 obtain ⟨h0,h1,h2,h3⟩ := ask_0 h
 exact ⟨h0,h1,h3⟩
theorem max_0 {e:Int} {a b:I} (h:(cMax e a b).2 = 0):e = 0 ∧ rt a = true ∧ rt b = true ∧ cMax e a b = (maxI a b,0) := by
 unfold cMax at h ⊢
 obtain ⟨h0,h1,h2,h3⟩ := ask_0 h
 exact ⟨h0,(both h1).1,(both h1).2,h3⟩
theorem num_0 {e:Int} {x:F} (h:(cNum e x).2 = 0):e = 0 ∧ cNum e x = (⟨x,x⟩,0) := by
 unfold cNum at h ⊢
 obtain ⟨h0,h1,h2,h3⟩ := ask_0 h
 exact ⟨h0,h3⟩
theorem corner {a0 a1 c0 c1 x y m:Rat} (h1:m ≤ a0 * c0) (h2:m ≤ a0 * c1) (h3:m ≤ a1 * c0) (h4:m ≤ a1 * c1) (x0:a0 ≤ x) (x1:x ≤ a1) (y0:c0 ≤ y) (y1:y ≤ c1):m ≤ x * y := by
 have k1:m ≤ a0 * y := lin_ge h1 h2 y0 y1
 have k2:m ≤ a1 * y := lin_ge h3 h4 y0 y1
 have := lin_ge (c := y) (b0 := a0) (b1 := a1) (m := m) (y := x) (by grind) (by grind) x0 x1
 grind
theorem corner' {a0 a1 c0 c1 x y m:Rat} (h1:a0 * c0 ≤ m) (h2:a0 * c1 ≤ m) (h3:a1 * c0 ≤ m) (h4:a1 * c1 ≤ m) (x0:a0 ≤ x) (x1:x ≤ a1) (y0:c0 ≤ y) (y1:y ≤ c1):x * y ≤ m := by
 have k1:a0 * y ≤ m := lin_le h1 h2 y0 y1
 have k2:a1 * y ≤ m := lin_le h3 h4 y0 y1
 have := lin_le (c := y) (b0 := a0) (b1 := a1) (m := m) (y := x) (by grind) (by grind) x0 x1
 grind
theorem inv_le {x y:Rat} (h:0 < x ∧ x ≤ y ∨ x ≤ y ∧ y < 0):y⁻¹ ≤ x⁻¹ := by
 have hx:x ≠ 0 := by rcases h with h | h <;> grind
 have hy:y ≠ 0 := by rcases h with h | h <;> grind
 have e1:x * x⁻¹ = 1 := Rat.mul_inv_cancel x hx
 have e2:y * y⁻¹ = 1 := Rat.mul_inv_cancel y hy
 rcases h with h | h
 ·have p1 := Rat.inv_pos.2 h.1
  have p2 := Rat.inv_pos.2 (show 0 < y by grind)
  have := Rat.mul_nonneg (Rat.mul_nonneg (show 0 ≤ y - x by grind) (Rat.le_of_lt p1)) (Rat.le_of_lt p2)
  generalize x⁻¹ = u at *
  generalize y⁻¹ = v at *
  have e3:(y - x) * u * v = u - v := by grind
  grind
 ·have p1:x⁻¹ < 0 := by
   apply Rat.not_le.1
   intro g
   have := Rat.mul_nonneg g (show 0 ≤ -x by grind)
   generalize x⁻¹ = u at *
   grind
  have p2:y⁻¹ < 0 := by
   apply Rat.not_le.1
   intro g
   have := Rat.mul_nonneg g (show 0 ≤ -y by grind)
   generalize y⁻¹ = u at *
   grind
  have := Rat.mul_nonneg (Rat.mul_nonneg (show 0 ≤ y - x by grind) (show 0 ≤ -x⁻¹ by grind)) (show 0 ≤ -y⁻¹ by grind)
  generalize x⁻¹ = u at *
  generalize y⁻¹ = v at *
  have e3:(y - x) * -u * -v = u - v := by grind
  grind
theorem div_in {r a b:I} {x y:Rat} (hr:rt b = true) (hz:hasB b F.zero = false) (h:AllR r (a.lo.q / b.lo.q) (a.lo.q / b.hi.q) (a.hi.q / b.lo.q) (a.hi.q / b.hi.q)) (hx:Mem a x) (hy:Mem b y):Mem r (x / y) := by
 have n := no_zero hr hz
 have y1 := hy.lo; have y2 := hy.hi
 obtain ⟨⟨l1,l2,l3,l4⟩,⟨u1,u2,u3,u4⟩,_,_⟩ := h
 rw [Rat.div_def]
 simp only [Rat.div_def] at l1 l2 l3 l4 u1 u2 u3 u4
 have i1:b.hi.q⁻¹ ≤ y⁻¹ := inv_le (by rcases n with n | n; exact .inl ⟨by grind,y2⟩; exact .inr ⟨y2,n⟩)
 have i2:y⁻¹ ≤ b.lo.q⁻¹ := inv_le (by rcases n with n | n; exact .inl ⟨n,y1⟩; exact .inr ⟨y1,by grind⟩)
 exact ⟨corner l2 l1 l4 l3 hx.lo hx.hi i1 i2,corner' u2 u1 u4 u3 hx.lo hx.hi i1 i2⟩
theorem bare_gen {a:I} (hr:rt a = true):0 ≤ (bareI a).lo.q ∧ (bareI a).lo.q ≤ (bareI a).hi.q ∧ ∀ v,Mem a v → (((bareI a).lo.q ≤ v ∧ v ≤ (bareI a).hi.q) ∨ ((bareI a).lo.q ≤ -v ∧ -v ≤ (bareI a).hi.q)) := by
 have x3 := rt_le hr
 have hz:∀ x:F,0 ≤ x.k ↔ 0 ≤ x.q := fun x => by rw [← q_zero,q_le]; rfl
 unfold bareI
 cases h1:decide (0 ≤ a.lo.k)
 ·have g1 := of_decide_eq_false h1
  rw [hz] at g1
  rw [cond_false]
  cases h2:decide (a.hi.k ≤ 0)
  ·have g2 := of_decide_eq_false h2
   have g3:¬ a.hi.q ≤ 0 := by rw [← q_zero,q_le]; exact g2
   rw [cond_false]
   simp only
   have m1 := mxF_q a.hi a.lo.neg
   rw [q_neg] at m1
   rw [q_zero]
   refine ⟨Rat.le_refl,by grind,fun v hv => ?_⟩
   have v1 := hv.lo; have v2 := hv.hi
   rcases (Rat.le_total:0 ≤ v ∨ v ≤ 0) with h | h
   ·exact .inl ⟨h,by grind⟩
   ·exact .inr ⟨by grind,by grind⟩
  ·have g2 := of_decide_eq_true h2
   have g3:a.hi.q ≤ 0 := by rw [← q_zero,q_le]; exact g2
   rw [cond_true]
   simp only [turnI,q_neg]
   exact ⟨by grind,by grind,fun v hv => .inr ⟨by have := hv.hi; grind,by have := hv.lo; grind⟩⟩
 ·have g1 := of_decide_eq_true h1
  rw [hz] at g1
  rw [cond_true]
  exact ⟨g1,x3,fun v hv => .inl ⟨hv.lo,hv.hi⟩⟩
theorem bare_ends {a:I} (hr:rt a = true):(Mem a (bareI a).lo.q ∨ Mem a (-(bareI a).lo.q)) ∧ (Mem a (bareI a).hi.q ∨ Mem a (-(bareI a).hi.q)) := by
 have x3 := rt_le hr
 have hz:∀ x:F,0 ≤ x.k ↔ 0 ≤ x.q := fun x => by rw [← q_zero,q_le]; rfl
 unfold bareI
 cases h1:decide (0 ≤ a.lo.k)
 ·have g1 := of_decide_eq_false h1
  rw [hz] at g1
  rw [cond_false]
  cases h2:decide (a.hi.k ≤ 0)
  ·have g2 := of_decide_eq_false h2
   have g3:¬ a.hi.q ≤ 0 := by rw [← q_zero,q_le]; exact g2
   rw [cond_false]
   simp only
   rw [q_zero]
   refine ⟨.inl ⟨by grind,by grind⟩,?_⟩
   rcases mxF_or a.hi a.lo.neg with h | h
   ·rw [h]; exact .inl ⟨x3,Rat.le_refl⟩
   ·rw [h,q_neg]; exact .inr ⟨by grind,by grind⟩
  ·rw [cond_true]
   simp only [turnI,q_neg]
   exact ⟨.inr ⟨by grind,by grind⟩,.inr ⟨by grind,by grind⟩⟩
 ·rw [cond_true]
  exact ⟨.inl ⟨Rat.le_refl,x3⟩,.inl ⟨x3,Rat.le_refl⟩⟩
theorem sqr_in' {r a:I} {v:Rat} (ha:rt a = true) (h1:Dn r.lo ((bareI a).lo.q * (bareI a).lo.q)) (h2:Up r.hi ((bareI a).hi.q * (bareI a).hi.q)) (hv:Mem a v):Mem r (v * v) := by
 obtain ⟨b1,b2,b3⟩ := bare_gen ha
 have l := h1.le; have u := h2.ge
 have key:∀ {x w y:Rat},0 ≤ x → x ≤ w → w ≤ y → x * x ≤ w * w ∧ w * w ≤ y * y := by
  intro x w y h1 h2 h3
  have a1 := Rat.mul_nonneg h1 (show 0 ≤ w - x by grind)
  have a2 := Rat.mul_nonneg (show 0 ≤ w by grind) (show 0 ≤ w - x by grind)
  have a3 := Rat.mul_nonneg (show 0 ≤ w by grind) (show 0 ≤ y - w by grind)
  have a4 := Rat.mul_nonneg (show 0 ≤ y by grind) (show 0 ≤ y - w by grind)
  constructor <;> grind
 rcases b3 v hv with ⟨c1,c2⟩ | ⟨c1,c2⟩
 ·have := key b1 c1 c2; exact ⟨by grind,by grind⟩
 ·have := key b1 c1 c2; exact ⟨by grind,by grind⟩
structure Kk where
 add:Int → I → I → I × Int
 sub:Int → I → I → I × Int
 mul:Int → I → I → I × Int
 div:Int → I → I → I × Int
 max:Int → I → I → I × Int
 sqr:Int → I → I × Int
 sqrt:Int → I → I × Int
 neg:Int → I → I × Int
 num:Int → F → I × Int
def KkR:Kk := ⟨KTR.add,KTR.sub,KTR.mul,KTR.div,cMax,KTR.sqr,cSqrt qSqrt,KTR.neg,KTR.num⟩
inductive Op where
 | add (i j:Nat)
 | sub (i j:Nat)
 | mul (i j:Nat)
 | div (i j:Nat)
 | max (i j:Nat)
 | sqr (i:Nat)
 | sqrt (i:Nat)
 | neg (i:Nat)
 | num (x:F)
 | lit (a:I)
 | fn (f:I → I) (i:Nat)
 | fn2 (f:I → I → I) (i j:Nat)
 | kept (l h:F) (i:Nat)
 | wi (i:Nat)
 | hid (i:Nat)
def hidI (a:I):I := ⟨mxF a.lo (toF 0),mxF a.hi (toF 0)⟩
def gt (v:List I) (i:Nat):I := v.getD i I.zero
def stepK (K:Kk) (o:Op) (v:List I) (e:Int):I × Int :=
 match o with
 | .add i j => K.add e (gt v i) (gt v j)
 | .sub i j => K.sub e (gt v i) (gt v j)
 | .mul i j => K.mul e (gt v i) (gt v j)
 | .div i j => K.div e (gt v i) (gt v j)
 | .max i j => K.max e (gt v i) (gt v j)
 | .sqr i => K.sqr e (gt v i)
 | .sqrt i => K.sqrt e (gt v i)
 | .neg i => K.neg e (gt v i)
 | .num x => K.num e x
 | .lit a => (a,e)
 | .fn f i => (f (gt v i),e)
 | .fn2 f i j => (f (gt v i) (gt v j),e)
 | .kept l h i => (keptI (gt v i) l h,e)
 | .wi i => (withI (gt v i),e)
 | .hid i => (hidI (gt v i),e)
def evalK (K:Kk):List Op → List I → Int → List I × Int
 | [],v,e => (v,e)
 | o :: l,v,e => evalK K l ((stepK K o v e).1 :: v) (stepK K o v e).2
def Fact (o:Op) (v:List I) (r:I):Prop :=
 match o with
 | .add i j => Dn r.lo ((gt v i).lo.q + (gt v j).lo.q) ∧ Up r.hi ((gt v i).hi.q + (gt v j).hi.q)
 | .sub i j => Dn r.lo ((gt v i).lo.q - (gt v j).hi.q) ∧ Up r.hi ((gt v i).hi.q - (gt v j).lo.q)
 | .mul i j => AllR r ((gt v i).lo.q * (gt v j).lo.q) ((gt v i).lo.q * (gt v j).hi.q) ((gt v i).hi.q * (gt v j).lo.q) ((gt v i).hi.q * (gt v j).hi.q)
 | .div i j => hasB (gt v j) F.zero = false ∧ AllR r ((gt v i).lo.q / (gt v j).lo.q) ((gt v i).lo.q / (gt v j).hi.q) ((gt v i).hi.q / (gt v j).lo.q) ((gt v i).hi.q / (gt v j).hi.q)
 | .max i j => r = maxI (gt v i) (gt v j)
 | .sqr i => Dn r.lo ((bareI (gt v i)).lo.q * (bareI (gt v i)).lo.q) ∧ Up r.hi ((bareI (gt v i)).hi.q * (bareI (gt v i)).hi.q)
 | .sqrt i => 0 ≤ (gt v i).lo.q ∧ SqD r.lo (gt v i).lo ∧ SqU r.hi (gt v i).hi
 | .neg i => r = turnI (gt v i)
 | .num x => r = ⟨x,x⟩
 | .lit a => r = a
 | .fn f i => r = f (gt v i)
 | .fn2 f i j => r = f (gt v i) (gt v j)
 | .kept l h i => r = keptI (gt v i) l h
 | .wi i => r = withI (gt v i)
 | .hid i => r = hidI (gt v i)
def ArgsRt (o:Op) (v:List I):Prop :=
 match o with
 | .add i j | .sub i j | .mul i j | .div i j | .max i j => rt (gt v i) = true ∧ rt (gt v j) = true
 | .sqr i | .sqrt i | .neg i => rt (gt v i) = true
 | _ => True
theorem step_fact {o:Op} {v:List I} {e:Int} (h:(stepK KkR o v e).2 = 0):e = 0 ∧ ArgsRt o v ∧ Fact o v (stepK KkR o v e).1 := by
 cases o with
 | add i j => obtain ⟨a,b,c,_,d⟩ := add_0 h; exact ⟨a,⟨b,c⟩,d⟩
 | sub i j => obtain ⟨a,b,c,_,d⟩ := sub_0 h; exact ⟨a,⟨b,c⟩,d⟩
 | mul i j => obtain ⟨a,b,c,_,d⟩ := mul_0 h; exact ⟨a,⟨b,c⟩,d⟩
 | div i j => obtain ⟨a,b,c,d,_,f⟩ := div_0 h; exact ⟨a,⟨b,c⟩,d,f⟩
 | max i j => obtain ⟨a,b,c,d⟩ := max_0 h; exact ⟨a,⟨b,c⟩,congrArg Prod.fst d⟩
 | sqr i => obtain ⟨a,b,_,d⟩ := sqr_0 h; exact ⟨a,b,d⟩
 | sqrt i => obtain ⟨a,b,c,_,d⟩ := sqrt_0 h; exact ⟨a,b,c,d⟩
 | neg i => obtain ⟨a,b,d⟩ := neg_0 h; exact ⟨a,b,congrArg Prod.fst d⟩
 | num x => obtain ⟨a,d⟩ := num_0 h; exact ⟨a,trivial,congrArg Prod.fst d⟩
 | lit a => exact ⟨h,trivial,rfl⟩
 | fn f i => exact ⟨h,trivial,rfl⟩
 | fn2 f i j => exact ⟨h,trivial,rfl⟩
 | kept l u i => exact ⟨h,trivial,rfl⟩
 | wi i => exact ⟨h,trivial,rfl⟩
 | hid i => exact ⟨h,trivial,rfl⟩
theorem step_kept {o:Op} {v:List I} {e:Int} (he:e ≠ 0):(stepK KkR o v e).2 = e := by
 cases o with
 | add i j => exact congrArg Prod.snd (ask_kept he _ _)
 | sub i j => exact congrArg Prod.snd (ask_kept he _ _)
 | mul i j => exact congrArg Prod.snd (ask_kept he _ _)
 | div i j => exact congrArg Prod.snd (ask_kept he _ _)
 | max i j => exact congrArg Prod.snd (ask_kept he _ _)
 | sqr i => exact congrArg Prod.snd (ask_kept he _ _)
 | sqrt i => exact congrArg Prod.snd (ask_kept he _ _)
 | neg i => exact congrArg Prod.snd (ask_kept he _ _)
 | num x => exact congrArg Prod.snd (ask_kept he _ _)
 | lit a => rfl
 | fn f i => rfl
 | fn2 f i j => rfl
 | kept l u i => rfl
 | wi i => rfl
 | hid i => rfl
theorem eval_kept:∀ {l:List Op} {v:List I} {e:Int},e ≠ 0 → (evalK KkR l v e).2 = e
 | [],_,_,_ => rfl
 | o :: l, v, e, he => by
   show (evalK KkR l ((stepK KkR o v e).1 :: v) (stepK KkR o v e).2).2 = e
   rw [step_kept he]; exact eval_kept he
def Chain:List Op → List I → List I → Prop
 | [],v,u => u = v
 | o :: l,v,u => ∃ r,Fact o v r ∧ Chain l (r :: v) u
theorem eval_chain:∀ {l:List Op} {v:List I} {e:Int},(evalK KkR l v e).2 = 0 → e = 0 ∧ Chain l v (evalK KkR l v e).1
 | [],_,_,h => ⟨h,rfl⟩
 | o :: l, v, e, h => by
   obtain ⟨h1,h2⟩ := eval_chain (l := l) h
   obtain ⟨g1,_,g2⟩ := step_fact h1
   exact ⟨g1,_,g2,h2⟩
theorem eval_cons {K:Kk} {o:Op} {l:List Op} {v:List I} {r:I} {e e':Int} (h:stepK K o v e = (r,e')):evalK K (o :: l) v e = evalK K l (r :: v) e' := by
 show evalK K l ((stepK K o v e).1 :: v) (stepK K o v e).2 = _
 rw [h]
theorem dn_up {l h:F} {v w:Rat} (a:Dn l v) (b:Up h w) (c:v ≤ w):rt ⟨l,h⟩ = true := rt_q (by have := a.le; have := b.ge; show l.q ≤ h.q; grind)
theorem AllR.rt {r:I} {p q s t:Rat} (h:AllR r p q s t):rt r = true := rt_q (Rat.le_trans h.lo.1 h.hi.1)
theorem maxI_rt {a b:I} (ha:rt a = true) (hb:rt b = true):rt (maxI a b) = true := by
 have h1 := of_decide_eq_true ha; have h2 := of_decide_eq_true hb
 refine decide_eq_true ?_
 show (mxF a.lo b.lo).k ≤ (mxF a.hi b.hi).k
 rw [mxF_k,mxF_k]; omega
theorem turnI_rt {a:I} (ha:rt a = true):rt (turnI a) = true := by
 have h1 := of_decide_eq_true ha
 refine decide_eq_true ?_
 show -a.hi.k ≤ -a.lo.k
 omega
theorem sq_rt {r a:I} (ha:rt a = true) (h0:0 ≤ a.lo.q) (h1:SqD r.lo a.lo) (h2:SqU r.hi a.hi):rt r = true := by
 have l := rt_le ha
 have := h1.le; have := h2.ge
 exact rt_q (sq_le' h1.nn h2.nn (by grind))
theorem keptI_k (a:I) (l h:F):(keptI a l h).lo.k = min (max a.lo.k l.k) h.k ∧ (keptI a l h).hi.k = min (max a.hi.k l.k) h.k := by
 unfold keptI
 simp only [mnF_k,mxF_k]
 exact ⟨trivial,trivial⟩
theorem keptI_rt {a:I} {l h:F} (ha:rt a = true):rt (keptI a l h) = true := by
 have h1 := of_decide_eq_true ha
 obtain ⟨e1,e2⟩ := keptI_k a l h
 refine decide_eq_true ?_
 rw [e1,e2]; omega
theorem withI_rt (a:I):rt (withI a) = true := by
 unfold withI
 cases h:decide ((mnF a.hi one64).k < (mxF a.lo mone64).k)
 ·have := of_decide_eq_false h
  exact decide_eq_true (by show (mxF a.lo mone64).k ≤ (mnF a.hi one64).k; omega)
 ·exact (show rt I.zero = true by decide)
theorem hidI_k (a:I):(hidI a).lo.k = max a.lo.k (toF 0).k ∧ (hidI a).hi.k = max a.hi.k (toF 0).k := by
 unfold hidI
 simp only [mxF_k]
 exact ⟨trivial,trivial⟩
theorem hidI_rt {a:I} (ha:rt a = true):rt (hidI a) = true := by
 have h1 := of_decide_eq_true ha
 obtain ⟨e1,e2⟩ := hidI_k a
 refine decide_eq_true ?_
 rw [e1,e2]; omega
def okO (o:Op) (v:List I):Prop :=
 match o with
 | .sqrt i => 0 ≤ (gt v i).lo.q
 | .lit a => rt a = true
 | .fn f i => rt (f (gt v i)) = true
 | .fn2 f i j => rt (f (gt v i) (gt v j)) = true
 | _ => True
theorem gt_rt {v:List I} (h:∀ a ∈ v,rt a = true) (i:Nat):rt (gt v i) = true := by
 unfold gt
 rw [List.getD_eq_getElem?_getD]
 cases k:v[i]? with
 | none => decide
 | some a => exact h a (List.mem_of_getElem? k)
theorem fact_rt {o:Op} {v:List I} {r:I} (hv:∀ a ∈ v,rt a = true) (ho:okO o v) (h:Fact o v r):rt r = true := by
 have g := gt_rt hv
 cases o with
 | add i j => have a := rt_le (g i); have b := rt_le (g j); exact dn_up h.1 h.2 (by grind)
 | sub i j => have a := rt_le (g i); have b := rt_le (g j); exact dn_up h.1 h.2 (by grind)
 | mul i j => exact h.rt
 | div i j => exact h.2.rt
 | max i j => rw [show r = _ from h]; exact maxI_rt (g i) (g j)
 | sqr i =>
   obtain ⟨b1,b2,_⟩ := bare_gen (g i)
   have := sq_bd (x := (bareI (gt v i)).lo.q) (m := (bareI (gt v i)).hi.q) (by grind) b2
   exact dn_up h.1 h.2 this
 | sqrt i => exact sq_rt (g i) ho h.2.1 h.2.2
 | neg i => rw [show r = _ from h]; exact turnI_rt (g i)
 | num x => rw [show r = _ from h]; exact decide_eq_true (Int.le_refl _)
 | lit a => rw [show r = _ from h]; exact ho
 | fn f i => rw [show r = _ from h]; exact ho
 | fn2 f i j => rw [show r = _ from h]; exact ho
 | kept l u i => rw [show r = _ from h]; exact keptI_rt (g i)
 | wi i => rw [show r = _ from h]; exact withI_rt _
 | hid i => rw [show r = _ from h]; exact hidI_rt (g i)
theorem qSqrt_er {up:Bool} {a:F} (h:0 ≤ a.q):(qSqrt up a).2 = 0 := by
 cases up
 ·obtain ⟨r,e,_⟩ := (qSqrt_gen h).1; rw [e]
 ·obtain ⟨r,e,_⟩ := (qSqrt_gen h).2; rw [e]
theorem step_er {o:Op} {v:List I} (hv:∀ a ∈ v,rt a = true) (ho:okO o v):Er (stepK KkR o v 0).2 := by
 have g := gt_rt hv
 have z:Er 0 := .inl rfl
 have two:∀ {i j},(rt (gt v i) && rt (gt v j)) = true := by intro i j; rw [g i,g j]; rfl
 cases o with
 | add i j => exact ask_er z two (ends_er (dAdd_RD _ _).er (dAdd_RU _ _).er)
 | sub i j => exact ask_er z two (ends_er (dSub_RD _ _).er (dSub_RU _ _).er)
 | mul i j => exact ask_er z two (all_er (mul_four _ _))
 | div i j =>
   refine ask_er z two ?_
   cases k:hasB (gt v j) F.zero
   ·exact all_er (div_four (g j) k)
   ·exact .inr (.inr rfl)
 | max i j => exact ask_er z two z
 | sqr i => exact ask_er z (g i) (ends_er (dMul_RD _ _).er (dMul_RU _ _).er)
 | sqrt i =>
   have l := rt_le (g i)
   have ho':0 ≤ (gt v i).lo.q := ho
   exact ask_er z (g i) (ends_er (.inl (qSqrt_er ho')) (.inl (qSqrt_er (by grind))))
 | neg i => exact ask_er z (g i) z
 | num x => exact ask_er z rfl z
 | lit a => exact z
 | fn f i => exact z
 | fn2 f i j => exact z
 | kept l u i => exact z
 | wi i => exact z
 | hid i => exact z
def CondE:List Op → List I → Prop
 | [],_ => True
 | o :: l,v => okO o v ∧ ∀ r,Fact o v r → rt r = true → CondE l (r :: v)
theorem eval_er:∀ {l:List Op} {v:List I},(∀ a ∈ v,rt a = true) → CondE l v → Er (evalK KkR l v 0).2
 | [],_,_,_ => .inl rfl
 | o :: l, v, hv, hc => by
   have h := step_er hv hc.1
   by_cases k:(stepK KkR o v 0).2 = 0
   ·obtain ⟨_,_,f⟩ := step_fact k
    have r := fact_rt hv hc.1 f
    have ih := eval_er (l := l) (v := (stepK KkR o v 0).1 :: v) (fun a ha => by
     rcases List.mem_cons.1 ha with rfl | ha
     ·exact r
     ·exact hv a ha) (hc.2 _ f r)
    show Er (evalK KkR l ((stepK KkR o v 0).1 :: v) (stepK KkR o v 0).2).2
    rw [k]; exact ih
   ·show Er (evalK KkR l ((stepK KkR o v 0).1 :: v) (stepK KkR o v 0).2).2
    rw [eval_kept k]; exact h
structure Inn (a b:I):Prop where
 lo:b.lo.q ≤ a.lo.q
 hi:a.hi.q ≤ b.hi.q
 rt:rt a = true
theorem Inn.mem {a b:I} (h:Inn a b):Mem b a.lo.q ∧ Mem b a.hi.q := by
 have := rt_le h.rt; have := h.lo; have := h.hi
 exact ⟨⟨h.lo,by grind⟩,⟨by grind,h.hi⟩⟩
theorem Inn.refl {a:I} (h:Bu.rt a = true):Inn a a := ⟨Rat.le_refl,Rat.le_refl,h⟩
def MonoO:Op → Prop
 | .lit a => rt a = true
 | .fn f _ => ∀ a b,Inn a b → Inn (f a) (f b)
 | .fn2 f _ _ => ∀ a b c d,Inn a b → Inn c d → Inn (f a c) (f b d)
 | .wi _ => False
 | _ => True
theorem ends_mk {p q:F × Int} (h:p.2 = 0) (k:q.2 = 0):endsI p q = (⟨p.1,q.1⟩,0) := by
 unfold endsI; rw [h,k]; rfl
theorem ask_mk {g:Bool} {r:I × Int} (hg:g = true) (h:r.2 = 0):askI 0 g r = (r.1,0) := ask_ok hg h
theorem add_inn {a a' b b':I} (ha:Inn a a') (hb:Inn b b') (h:(cAdd dAdd 0 a' b').2 = 0):∃ r,cAdd dAdd 0 a b = (r,0) ∧ Inn r (cAdd dAdd 0 a' b').1 := by
 obtain ⟨_,_,_,_,d,u⟩ := add_0 h
 generalize (cAdd dAdd 0 a' b').1 = r' at *
 have := d.le; have := u.ge; have := ha.lo; have := ha.hi; have := hb.lo; have := hb.hi
 have p := (dAdd_RD a.lo b.lo).has (c := r'.lo) (by grind)
 have q := (dAdd_RU a.hi b.hi).has (c := r'.hi) (by grind)
 refine ⟨⟨(dAdd false a.lo b.lo).1,(dAdd true a.hi b.hi).1⟩,?_,⟨p.2,q.2,?_⟩⟩
 ·unfold cAdd
  rw [ends_mk p.1 q.1,ask_mk (by rw [ha.rt,hb.rt]; rfl) rfl]
 ·have := rt_le ha.rt; have := rt_le hb.rt
  exact dn_up ((dAdd_RD a.lo b.lo).ok p.1) ((dAdd_RU a.hi b.hi).ok q.1) (by grind)
theorem sub_inn {a a' b b':I} (ha:Inn a a') (hb:Inn b b') (h:(cSub dSub 0 a' b').2 = 0):∃ r,cSub dSub 0 a b = (r,0) ∧ Inn r (cSub dSub 0 a' b').1 := by
 obtain ⟨_,_,_,_,d,u⟩ := sub_0 h
 generalize (cSub dSub 0 a' b').1 = r' at *
 have := d.le; have := u.ge; have := ha.lo; have := ha.hi; have := hb.lo; have := hb.hi
 have p := (dSub_RD a.lo b.hi).has (c := r'.lo) (by grind)
 have q := (dSub_RU a.hi b.lo).has (c := r'.hi) (by grind)
 refine ⟨⟨(dSub false a.lo b.hi).1,(dSub true a.hi b.lo).1⟩,?_,⟨p.2,q.2,?_⟩⟩
 ·unfold cSub
  rw [ends_mk p.1 q.1,ask_mk (by rw [ha.rt,hb.rt]; rfl) rfl]
 ·have := rt_le ha.rt; have := rt_le hb.rt
  exact dn_up ((dSub_RD a.lo b.hi).ok p.1) ((dSub_RU a.hi b.lo).ok q.1) (by grind)
theorem mul_inn {a a' b b':I} (ha:Inn a a') (hb:Inn b b') (h:(cMul dMul 0 a' b').2 = 0):∃ r,cMul dMul 0 a b = (r,0) ∧ Inn r (cMul dMul 0 a' b').1 := by
 obtain ⟨_,_,_,_,d⟩ := mul_0 h
 generalize (cMul dMul 0 a' b').1 = r' at *
 obtain ⟨a1,a2⟩ := ha.mem
 obtain ⟨b1,b2⟩ := hb.mem
 have m1 := mul_mem d a1 b1
 have m2 := mul_mem d a1 b2
 have m3 := mul_mem d a2 b1
 have m4 := mul_mem d a2 b2
 obtain ⟨r,e,hr,c1,c2⟩ := all_has (mul_four a b) m1.lo m2.lo m3.lo m4.lo m1.hi m2.hi m3.hi m4.hi
 refine ⟨r,?_,⟨c1,c2,hr.rt⟩⟩
 unfold cMul
 rw [e,ask_mk (by rw [ha.rt,hb.rt]; rfl) rfl]
theorem div_inn {a a' b b':I} (ha:Inn a a') (hb:Inn b b') (h:(cDiv pDiv 0 a' b').2 = 0):∃ r,cDiv pDiv 0 a b = (r,0) ∧ Inn r (cDiv pDiv 0 a' b').1 := by
 obtain ⟨_,_,hr',hz,_,d⟩ := div_0 h
 generalize (cDiv pDiv 0 a' b').1 = r' at *
 obtain ⟨a1,a2⟩ := ha.mem
 obtain ⟨b1,b2⟩ := hb.mem
 have n := no_zero hr' hz
 have z:hasB b F.zero = false := by
  unfold hasB
  rw [hb.rt,Bool.true_and,Bool.and_eq_false_iff,decide_eq_false_iff_not,decide_eq_false_iff_not]
  have l1 := hb.lo; have l2 := hb.hi
  rcases n with n | n
  ·left; intro k; have := q_le.2 k; rw [q_zero] at this; grind
  ·right; intro k; have := q_le.2 k; rw [q_zero] at this; grind
 have m1 := div_in hr' hz d a1 b1
 have m2 := div_in hr' hz d a1 b2
 have m3 := div_in hr' hz d a2 b1
 have m4 := div_in hr' hz d a2 b2
 obtain ⟨r,e,hr,c1,c2⟩ := all_has (div_four (a := a) hb.rt z) m1.lo m2.lo m3.lo m4.lo m1.hi m2.hi m3.hi m4.hi
 refine ⟨r,?_,⟨c1,c2,hr.rt⟩⟩
 unfold cDiv
 rw [z,cond_false,e,ask_mk (by rw [ha.rt,hb.rt]; rfl) rfl]
theorem sqr_inn {a a':I} (ha:Inn a a') (h:(cSqr dMul 0 a').2 = 0):∃ r,cSqr dMul 0 a = (r,0) ∧ Inn r (cSqr dMul 0 a').1 := by
 obtain ⟨_,hr,_,d,u⟩ := sqr_0 h
 generalize (cSqr dMul 0 a').1 = r' at *
 obtain ⟨b1,b2,_⟩ := bare_gen ha.rt
 obtain ⟨e1,e2⟩ := bare_ends ha.rt
 have key:∀ {x:Rat},(Mem a x ∨ Mem a (-x)) → Mem r' (x * x) := by
  intro x hx
  have up:∀ {y:Rat},Mem a y → Mem a' y := fun hy => ⟨by have := hy.lo; have := ha.lo; grind,by have := hy.hi; have := ha.hi; grind⟩
  rcases hx with hx | hx
  ·exact sqr_in' hr d u (up hx)
  ·have := sqr_in' hr d u (up hx)
   rwa [show -x * -x = x * x by grind] at this
 have p := (dMul_RD (bareI a).lo (bareI a).lo).has (c := r'.lo) (key e1).lo
 have q := (dMul_RU (bareI a).hi (bareI a).hi).has (c := r'.hi) (key e2).hi
 refine ⟨⟨(dMul false (bareI a).lo (bareI a).lo).1,(dMul true (bareI a).hi (bareI a).hi).1⟩,?_,⟨p.2,q.2,?_⟩⟩
 ·unfold cSqr
  rw [ends_mk p.1 q.1,ask_mk ha.rt rfl]
 ·exact dn_up ((dMul_RD _ _).ok p.1) ((dMul_RU _ _).ok q.1) (sq_bd (by grind) b2)
theorem sqrt_inn {a a':I} (ha:Inn a a') (h:(cSqrt qSqrt 0 a').2 = 0):∃ r,cSqrt qSqrt 0 a = (r,0) ∧ Inn r (cSqrt qSqrt 0 a').1 := by
 obtain ⟨_,_,h0,_,d,u⟩ := sqrt_0 h
 generalize (cSqrt qSqrt 0 a').1 = r' at *
 have l1 := ha.lo; have l2 := ha.hi; have l3 := rt_le ha.rt
 obtain ⟨x,e1,s1⟩ := (qSqrt_gen (a := a.lo) (by grind)).1
 obtain ⟨y,e2,s2⟩ := (qSqrt_gen (a := a.hi) (by grind)).2
 have dl := d.le; have ug := u.ge
 refine ⟨⟨x,y⟩,?_,⟨s1.top _ d.nn (by grind),s2.bot _ u.nn (by grind),sq_rt (r := ⟨x,y⟩) ha.rt (by grind) s1 s2⟩⟩
 unfold cSqrt
 rw [e1,e2,ends_mk rfl rfl,ask_mk ha.rt rfl]
theorem max_inn {a a' b b':I} (ha:Inn a a') (hb:Inn b b'):Inn (maxI a b) (maxI a' b') := by
 have h1 := q_le.1 ha.lo; have h2 := q_le.1 ha.hi; have h3 := q_le.1 hb.lo; have h4 := q_le.1 hb.hi
 refine ⟨q_le.2 ?_,q_le.2 ?_,maxI_rt ha.rt hb.rt⟩
 ·show (mxF a'.lo b'.lo).k ≤ (mxF a.lo b.lo).k
  rw [mxF_k,mxF_k]; omega
 ·show (mxF a.hi b.hi).k ≤ (mxF a'.hi b'.hi).k
  rw [mxF_k,mxF_k]; omega
theorem turn_inn {a a':I} (ha:Inn a a'):Inn (turnI a) (turnI a') := by
 have h1 := ha.lo; have h2 := ha.hi
 refine ⟨?_,?_,turnI_rt ha.rt⟩
 ·show a'.hi.neg.q ≤ a.hi.neg.q
  rw [q_neg,q_neg]; grind
 ·show a.lo.neg.q ≤ a'.lo.neg.q
  rw [q_neg,q_neg]; grind
theorem kept_inn {a a':I} (l h:F) (ha:Inn a a'):Inn (keptI a l h) (keptI a' l h) := by
 have h1 := q_le.1 ha.lo; have h2 := q_le.1 ha.hi
 obtain ⟨e1,e2⟩ := keptI_k a l h
 obtain ⟨e3,e4⟩ := keptI_k a' l h
 exact ⟨q_le.2 (by rw [e1,e3]; omega),q_le.2 (by rw [e2,e4]; omega),keptI_rt ha.rt⟩
theorem hid_inn {a a':I} (ha:Inn a a'):Inn (hidI a) (hidI a') := by
 have h1 := q_le.1 ha.lo; have h2 := q_le.1 ha.hi
 obtain ⟨e1,e2⟩ := hidI_k a
 obtain ⟨e3,e4⟩ := hidI_k a'
 exact ⟨q_le.2 (by rw [e1,e3]; omega),q_le.2 (by rw [e2,e4]; omega),hidI_rt ha.rt⟩
theorem step_inn {o:Op} {v v':List I} (hm:MonoO o) (hv:∀ i,Inn (gt v i) (gt v' i)) (h:(stepK KkR o v' 0).2 = 0):∃ r,stepK KkR o v 0 = (r,0) ∧ Inn r (stepK KkR o v' 0).1 := by
 cases o with
 | add i j => exact add_inn (hv i) (hv j) h
 | sub i j => exact sub_inn (hv i) (hv j) h
 | mul i j => exact mul_inn (hv i) (hv j) h
 | div i j => exact div_inn (hv i) (hv j) h
 | max i j =>
   obtain ⟨_,_,_,e⟩ := max_0 h
   refine ⟨maxI (gt v i) (gt v j),ask_mk (by rw [(hv i).rt,(hv j).rt]; rfl) rfl,?_⟩
   show Inn _ (cMax 0 (gt v' i) (gt v' j)).1
   rw [e]; exact max_inn (hv i) (hv j)
 | sqr i => exact sqr_inn (hv i) h
 | sqrt i => exact sqrt_inn (hv i) h
 | neg i =>
   obtain ⟨_,_,e⟩ := neg_0 h
   refine ⟨turnI (gt v i),ask_mk (hv i).rt rfl,?_⟩
   show Inn _ (cNeg 0 (gt v' i)).1
   rw [e]; exact turn_inn (hv i)
 | num x => exact ⟨⟨x,x⟩,rfl,Inn.refl (decide_eq_true (Int.le_refl _))⟩
 | lit a => exact ⟨a,rfl,Inn.refl hm⟩
 | fn f i => exact ⟨_,rfl,hm _ _ (hv i)⟩
 | fn2 f i j => exact ⟨_,rfl,hm _ _ _ _ (hv i) (hv j)⟩
 | kept l u i => exact ⟨_,rfl,kept_inn l u (hv i)⟩
 | wi i => exact hm.elim
 | hid i => exact ⟨_,rfl,hid_inn (hv i)⟩
theorem eval_inn:∀ {l:List Op} {v v':List I},(∀ o ∈ l,MonoO o) → (∀ i,Inn (gt v i) (gt v' i)) → (evalK KkR l v' 0).2 = 0 → (evalK KkR l v 0).2 = 0 ∧ ∀ i,Inn (gt (evalK KkR l v 0).1 i) (gt (evalK KkR l v' 0).1 i)
 | [],_,_,_,hv,_ => ⟨rfl,hv⟩
 | o :: l, v, v', hm, hv, h => by
   have h1:(stepK KkR o v' 0).2 = 0 := by
    apply Decidable.byContradiction
    intro k
    have := eval_kept (l := l) (v := (stepK KkR o v' 0).1 :: v') k
    have h':(evalK KkR l ((stepK KkR o v' 0).1 :: v') (stepK KkR o v' 0).2).2 = 0 := h
    rw [this] at h'
    exact k h'
   obtain ⟨r,e,hr⟩ := step_inn (hm o (by simp)) hv h1
   have h':(evalK KkR l ((stepK KkR o v' 0).1 :: v') (stepK KkR o v' 0).2).2 = 0 := h
   rw [h1] at h'
   have ih := eval_inn (l := l) (v := r :: v) (fun o ho => hm o (by simp [ho])) (fun i => by
    cases i with
    | zero => exact hr
    | succ i => exact hv i) h'
   rw [eval_cons e,eval_cons (show stepK KkR o v' 0 = ((stepK KkR o v' 0).1,0) from Prod.ext rfl h1)]
   exact ih
def nnS (o:Op) (s:List Bool):Bool :=
 match o with
 | .add i j | .mul i j | .div i j => s.getD i false && s.getD j false
 | .max i j => s.getD i false || s.getD j false
 | .sqr _ | .sqrt _ | .hid _ => true
 | .num x => decide (F.zero.k ≤ x.k)
 | .lit a => decide (F.zero.k ≤ a.lo.k)
 | .kept l h _ => decide (F.zero.k ≤ l.k) && decide (F.zero.k ≤ h.k)
 | _ => false
def okS (o:Op) (s:List Bool):Bool :=
 match o with
 | .sqrt i => s.getD i false
 | .lit a => rt a
 | .fn _ _ | .fn2 _ _ _ => false
 | _ => true
def chk:List Op → List Bool → Bool
 | [],_ => true
 | o :: l,s => okS o s && chk l (nnS o s :: s)
def Flags (s:List Bool) (v:List I):Prop := ∀ i,s.getD i false = true → 0 ≤ (gt v i).lo.q
theorem nn_q {x:F} (h:F.zero.k ≤ x.k):0 ≤ x.q := by rw [← q_zero]; exact q_le.2 h
theorem dn_nn {r:F} {v:Rat} (h:Dn r v) (hv:0 ≤ v):0 ≤ r.q := by rw [← q_zero]; exact h.top F.zero (by rw [q_zero]; exact hv)
theorem fact_nn {o:Op} {s:List Bool} {v:List I} {r:I} (hv:∀ a ∈ v,rt a = true) (hf:Flags s v) (h:Fact o v r) (hn:nnS o s = true):0 ≤ r.lo.q := by
 have g := gt_rt hv
 cases o with
 | add i j =>
   obtain ⟨a,b⟩ := both hn
   have := hf i a; have := hf j b
   exact dn_nn h.1 (by grind)
 | sub i j => exact absurd hn (by simp [nnS])
 | mul i j =>
   obtain ⟨a,b⟩ := both hn
   have a1 := hf i a; have b1 := hf j b
   have a2 := rt_le (g i); have b2 := rt_le (g j)
   have h':AllR r _ _ _ _ := h
   rw [← q_zero]
   refine h'.top ?_ ?_ ?_ ?_ <;> (rw [q_zero]; exact Rat.mul_nonneg (by grind) (by grind))
 | div i j =>
   obtain ⟨a,b⟩ := both hn
   have a1 := hf i a; have b1 := hf j b
   have a2 := rt_le (g i); have b2 := rt_le (g j)
   have h':AllR r _ _ _ _ := h.2
   have n := no_zero (g j) h.1
   have dq:∀ {x y:Rat},0 ≤ x → 0 < y → 0 ≤ x / y := fun hx hy => by rw [Rat.div_def]; exact Rat.mul_nonneg hx (Rat.le_of_lt (Rat.inv_pos.2 hy))
   rw [← q_zero]
   refine h'.top ?_ ?_ ?_ ?_ <;> (rw [q_zero]; exact dq (by grind) (by grind))
 | max i j =>
   rw [show r = _ from h]
   show 0 ≤ (mxF _ _).q
   have m := mxF_q (gt v i).lo (gt v j).lo
   rcases Bool.or_eq_true _ _ ▸ hn with a | a
   ·have := hf i a; grind
   ·have := hf j a; grind
 | sqr i =>
   obtain ⟨b1,_,_⟩ := bare_gen (g i)
   exact dn_nn h.1 (Rat.mul_nonneg b1 b1)
 | sqrt i => exact h.2.1.nn
 | neg i => exact absurd hn (by simp [nnS])
 | num x => rw [show r = _ from h]; exact nn_q (of_decide_eq_true hn)
 | lit a => rw [show r = _ from h]; exact nn_q (of_decide_eq_true hn)
 | fn f i => exact absurd hn (by simp [nnS])
 | fn2 f i j => exact absurd hn (by simp [nnS])
 | kept l u i =>
   rw [show r = _ from h]
   obtain ⟨a,b⟩ := both hn
   have a' := of_decide_eq_true a; have b' := of_decide_eq_true b
   exact nn_q (by rw [(keptI_k _ l u).1]; omega)
 | wi i => exact absurd hn (by simp [nnS])
 | hid i =>
   rw [show r = _ from h]
   have z:(toF 0).k = F.zero.k := by decide +kernel
   exact nn_q (by rw [(hidI_k _).1]; omega)
theorem chk_cond:∀ {l:List Op} {s:List Bool} {v:List I},chk l s = true → Flags s v → (∀ a ∈ v,rt a = true) → CondE l v
 | [],_,_,_,_,_ => trivial
 | o :: l, s, v, hc, hf, hv => by
   obtain ⟨h1,h2⟩ := both hc
   refine ⟨?_,fun r fr hr => chk_cond (l := l) h2 (fun i hi => ?_) fun a ha => ?_⟩
   ·cases o with
    | sqrt i => exact hf i h1
    | lit a => exact h1
    | fn f i => exact absurd h1 (by simp [okS])
    | fn2 f i j => exact absurd h1 (by simp [okS])
    | _ => trivial
   ·cases i with
    | zero => exact fact_nn hv hf fr hi
    | succ i => exact hf i hi
   ·rcases List.mem_cons.1 ha with rfl | ha
    ·exact hr
    ·exact hv a ha
theorem eval_er' {l:List Op} {s:List Bool} {v:List I} (hc:chk l s = true) (hf:Flags s v) (hv:∀ a ∈ v,rt a = true):Er (evalK KkR l v 0).2 := eval_er hv (chk_cond hc hf hv)
def cN32:F := toF 4751297606873776128
def frT (n:Int):F := sf (fdv (toF (FloatKind.f64.nearest n)) cN32)
def bwP (a b:F) (n:Int):F := sf (fmu (sf (fsu b a)) (frT n))
def bwX (a b:F) (n:Int):F := sf (fad a (bwP a b n))
def bwF (a b:F) (n:Int):F := bif decide ((bwX a b n).k < a.k) then a else bif decide (b.k < (bwX a b n).k) then b else bwX a b n
def bwO (a b:F) (n:Int):Obs := so (fad a (bwP a b n)) ++ so (fmu (sf (fsu b a)) (frT n)) ++ so (fdv (toF (FloatKind.f64.nearest n)) cN32) ++ [(rightB (FloatKind.f64.nearest n),true)] ++ so (fsu b a)
def wN32 (n:Int):Bool := decide (0 ≤ n ∧ n ≤ 4294967295)
def pairB (a b:F):Bool := decide (a.k < b.k) && decide (F.zero.k < (sf (fsu b a)).k) && obsB (so (fsu b a)) && decide ((sf (fsu b a)).k ≤ (toF 4625196817309499392).k) && decide ((toF 4625196817309499392).neg.k ≤ a.k) && decide (a.k ≤ (toF 4625196817309499392).k) && decide (fmu (sf (fsu b a)) F.zero = some F.zero.b)
set_option maxRecDepth 100000 in
theorem cN32_z:cN32.z = 4294967295 * (S:Int) ∧ 0 < cN32.k := ⟨of_decide_eq_true (by decide +kernel),of_decide_eq_true (by decide +kernel)⟩
theorem c16_q:(toF 4625196817309499392).q = 16 := q_int (n := 16) (by decide +kernel)
theorem frT_ok {n:Int} (h:wN32 n = true):∃ t:F,fdv (toF (FloatKind.f64.nearest n)) cN32 = some t.b ∧ 0 ≤ t.k ∧ t.k ≤ one64.k ∧ rightB (FloatKind.f64.nearest n) = true := by
 have hn := of_decide_eq_true h
 obtain ⟨m,rfl⟩ := Int.eq_ofNat_of_zero_le hn.1
 by_cases hm:m = 0
 ·subst hm
  exact ⟨F.zero,by decide +kernel,by decide +kernel,by decide +kernel,by decide +kernel⟩
 ·have hP:P = 4503599627370496 := rfl
  have hz := nat_z (m := m) (by omega)
  have hk:0 < (F.dy m 0).k := by
   have hS := S_pos
   have h2:0 < (F.dy m 0).z := by rw [hz]; exact Int.mul_pos (by omega) (by omega)
   have a := z_sign (F.dy m 0)
   have b := z_zero (F.dy m 0)
   omega
  have hle:(F.dy m 0).z ≤ cN32.z := by rw [hz,cN32_z.1]; exact Int.mul_le_mul_of_nonneg_right (by omega) (by have := S_pos; omega)
  obtain ⟨t,e,t0,t1⟩ := div_le1 hk cN32_z.2 hle one64_nv (by rw [T_num]; omega)
  refine ⟨t,?_,t0,by rw [one64_k]; omega,by rw [near_int (by omega)]; exact right_F _⟩
  unfold fdv
  rw [near_int (by omega),toF_F]; exact e
theorem mul_le1 {x y:F} (hx:0 < x.k) (hy:0 < y.k) (h:y.k ≤ one64.k):∃ t:F,fmu x y = some t.b ∧ 0 ≤ t.k ∧ t.k ≤ x.k := by
 have hz:y.z ≤ (S:Int) := by
  have h1 := q_le.2 h
  rw [one_q] at h1
  have h2 := F.q_mul y
  have h3:(y.z:Rat) ≤ ((S:Int):Rat) := by
   rw [← h2]
   have := Rat.mul_nonneg (show 0 ≤ 1 - y.q by grind) (Rat.le_of_lt S_gt)
   rw [Rat.intCast_natCast]
   generalize (S:Rat) = s at *
   grind
  exact Rat.intCast_le_intCast.1 h3
 have e := mul_F x y (by omega) (by omega)
 rw [decide_eq_false (show ¬ x.k < 0 by omega),decide_eq_false (show ¬ y.k < 0 by omega)] at e
 have hT := x.hk
 have hn:near (x.z.natAbs * y.z.natAbs) S ≤ x.k.natAbs := by
  refine near_le S_pos ?_
  have a := nvk (c := x) (by omega)
  have b := z_sign x; have c := z_sign y
  have:x.z.natAbs = nv x.k.natAbs := by omega
  rw [this]
  exact Nat.mul_le_mul_left _ (by omega)
 rw [Nat.min_eq_left (by omega),show (false ^^ false) = false from rfl,word_F _ _ (by omega) (by simp),if_neg (by decide)] at e
 exact ⟨_,e,by rw [F.of_k (by omega)]; omega,by rw [F.of_k (by omega)]; omega⟩
theorem bw_ok {a b:F} {n:Int} (hp:pairB a b = true) (h:wN32 n = true):obsB (bwO a b n) = true := by
 unfold pairB at hp
 simp only [Bool.and_eq_true,decide_eq_true_iff] at hp
 obtain ⟨⟨⟨⟨⟨⟨p1,p2⟩,p3⟩,p4⟩,p5⟩,p6⟩,p7⟩ := hp
 obtain ⟨t,e1,t0,t1,hr⟩ := frT_ok h
 obtain ⟨o1,o2⟩ := so_ok e1
 have eT:frT n = t := o2
 have p2':0 < (sf (fsu b a)).k := p2
 have hm:∃ p:F,fmu (sf (fsu b a)) t = some p.b ∧ 0 ≤ p.k ∧ p.k ≤ (sf (fsu b a)).k := by
  by_cases ht:t.k = 0
  ·have:t = F.zero := F.ext' ht
   subst this
   exact ⟨F.zero,p7,Int.le_refl _,by show (0:Int) ≤ _; omega⟩
  ·exact mul_le1 p2' (by omega) t1
 obtain ⟨p,e2,q0,q1⟩ := hm
 obtain ⟨o3,o4⟩ := so_ok e2
 have eP:bwP a b n = p := by unfold bwP; rw [eT]; exact o4
 have c := c16_q
 have a1 := q_le.2 p6; have a2 := q_le.2 p5; have a3 := q_le.2 (Int.le_trans q1 p4)
 have a4:0 ≤ p.q := by rw [← q_zero]; exact q_le.2 q0
 rw [q_neg] at a2
 obtain ⟨g,hg⟩ := big_ex
 obtain ⟨D,e3,_⟩ := add_nr (x := a) (y := p) (g := g) (by grind) (by grind)
 obtain ⟨o5,_⟩ := so_ok (show fad a p = some D.b from e3)
 unfold bwO
 rw [eP,eT]
 exact ob2 (ob2 (ob2 (ob2 o5 o3) o1) (obsB_yes hr obsB_nil)) p3
theorem bwF_in {a b:F} {n:Int} (h:a.k ≤ b.k):a.k ≤ (bwF a b n).k ∧ (bwF a b n).k ≤ b.k := by
 unfold bwF
 cases h1:decide ((bwX a b n).k < a.k)
 ·have g1 := of_decide_eq_false h1
  cases h2:decide (b.k < (bwX a b n).k)
  ·have g2 := of_decide_eq_false h2
   simp only [cond_false]; omega
  ·exact ⟨h,Int.le_refl _⟩
 ·exact ⟨Int.le_refl _,h⟩
def kBw (f:F → F → Int → F) (p:F → F → Bool) (u:Int → Bool):List SV → Dec → Option (SV × Dec × Obs)
 | [.fl a, .fl b, x], ds => match intS x with
   | some (.u32,n) => some (.fl (f a b n),ds,[(p a b,true),(u n,true)])
   | _ => none
 | _,_ => none
def meetsB (a b:I):Bool := decide (a.lo.k ≤ b.hi.k) && decide (b.lo.k ≤ a.hi.k)
def pt (x:F):I := ⟨x,x⟩
def z64:F := toF 0
def PIc:I := ⟨pi64,(nextF pi64 true).1⟩
structure V3 where
 x:I
 y:I
 z:I
def V3.zero:V3 := ⟨I.zero,I.zero,I.zero⟩
def V3.sv (v:V3):SV := .agg [.fl v.x.lo,.fl v.x.hi,.fl v.y.lo,.fl v.y.hi,.fl v.z.lo,.fl v.z.hi]
def kAbs:List SV → Dec → Option (SV × Dec × Obs)
 | [.fl x],ds => some (.fl x.abs,ds,[])
 | _,_ => none
def unP (x y z:F):List Op := [.num (x),.num (y),.num (z),.sqr 2,.sqr 2,.add 1 0,.sqr 3,.add 1 0,.sqrt 0,.div 8 0,.wi 0,.div 9 2,.wi 0,.div 10 4,.wi 0]
def ggD:List Op := [.sqr 1,.lit (PIc),.num (one64),.sub 2 0,.sqr 4,.mul 1 0,.num (one64),.add 1 0,.sqr 0,.mul 7 0,.div 9 0]
def gg1:List Op := [.sqr 1,.num (one64),.sqr 2,.num (one64),.sub 0 1,.div 0 2,.num (q2),.num (one64),.mul 7 2,.add 1 0,.sqrt 0,.num (one64),.sub 1 0,.mul 6 0,.hid 0,.add 13 0,.num (one64),.div 0 1]
def minA:F := toF 4584664420663164928
def tiny64:F := toF 4318952042648305664
def huge64:F := toF 4895412794951729152
def neB (e:Int):Bool := !(e == 0)
def unE (K:Kk) (x y z:F):List I × Int := evalK K (unP x y z) [] 0
def unV (K:Kk) (x y z:F):V3 := ⟨gt (unE K x y z).1 4,gt (unE K x y z).1 2,gt (unE K x y z).1 0⟩
def mostF (x y z:F):F := mxF (mxF x.abs y.abs) z.abs
def unB (x y z:F):Bool := !decide ((mostF x y z).k < tiny64.k) && !decide (huge64.k < (mostF x y z).k)
def kUn (f:F → F → F → V3) (p:F → F → F → Bool):List SV → Dec → Option (SV × Dec × Obs)
 | [.agg [.fl x,.fl y,.fl z]],ds => (takeB ds (p x y z)).map fun r => (bif r.1 then .tup [(f x y z).sv,.i .i64 0] else .tup [V3.zero.sv,.i .i64 50],r.2.1,r.2.2)
 | _,_ => none
def ggE (K:Kk) (p:List Op) (c al:I):List I × Int := evalK K p [c,al] 0
def ggR (K:Kk) (p:List Op) (c al:I):I × Int := bif neB (ggE K p c al).2 then (I.zero,(ggE K p c al).2) else (gt (ggE K p c al).1 0,0)
def alO (al:I):Obs := [(decide (al.hi.k ≤ one64.k),true),(decide (minA.k ≤ al.lo.k),true),(rt al,true)]
def ggO (c al:I):Obs := [(decide (c.hi.k ≤ one64.k),true),(decide (z64.k ≤ c.lo.k),true),(rt c,true)] ++ alO al
def kGg (f:I → I → I × Int):List SV → Dec → Option (SV × Dec × Obs)
 | [.agg [.fl a,.fl b],.agg [.fl c,.fl d]],ds => some (.tup [.agg [.fl (f ⟨a,b⟩ ⟨c,d⟩).1.lo,.fl (f ⟨a,b⟩ ⟨c,d⟩).1.hi],.si .i64 (f ⟨a,b⟩ ⟨c,d⟩).2],ds,ggO ⟨a,b⟩ ⟨c,d⟩)
 | _,_ => none
def dirO (v:V3):Obs := [(decide (v.z.hi.k ≤ one64.k),true),(decide (z64.k ≤ v.z.lo.k),true),(decide (v.y.hi.k ≤ one64.k),true),(decide (mone64.k ≤ v.y.lo.k),true),(decide (v.x.hi.k ≤ one64.k),true),(decide (mone64.k ≤ v.x.lo.k),true),(rt v.z,true),(rt v.y,true),(rt v.x,true)]
def dnO (v w:V3) (al:I):Obs := dirO w ++ dirO v ++ alO al
def kDn (f:V3 → V3 → I → I × Int):List SV → Dec → Option (SV × Dec × Obs)
 | [.agg [.fl a, .fl b, .fl c, .fl d, .fl e, .fl f'], .agg [.fl a2, .fl b2, .fl c2, .fl d2, .fl e2, .fl f2], .agg [.fl g, .fl h]], ds =>
   some (.tup [.agg [.fl (f ⟨⟨a,b⟩,⟨c,d⟩,⟨e,f'⟩⟩ ⟨⟨a2,b2⟩,⟨c2,d2⟩,⟨e2,f2⟩⟩ ⟨g,h⟩).1.lo,.fl (f ⟨⟨a,b⟩,⟨c,d⟩,⟨e,f'⟩⟩ ⟨⟨a2,b2⟩,⟨c2,d2⟩,⟨e2,f2⟩⟩ ⟨g,h⟩).1.hi],.si .i64 (f ⟨⟨a,b⟩,⟨c,d⟩,⟨e,f'⟩⟩ ⟨⟨a2,b2⟩,⟨c2,d2⟩,⟨e2,f2⟩⟩ ⟨g,h⟩).2],ds,dnO ⟨⟨a,b⟩,⟨c,d⟩,⟨e,f'⟩⟩ ⟨⟨a2,b2⟩,⟨c2,d2⟩,⟨e2,f2⟩⟩ ⟨g,h⟩)
 | _,_ => none
def d64:F := toF 4580160821035794432
theorem p_mul {i j:Nat} {v:List I} {r:I} {x y:Rat} (h:Fact (.mul i j) v r) (hx:Mem (gt v i) x) (hy:Mem (gt v j) y):Mem r (x * y) := mul_mem h hx hy
theorem p_div {i j:Nat} {v:List I} {r:I} {x y:Rat} (h:Fact (.div i j) v r) (hx:Mem (gt v i) x) (hy:Mem (gt v j) y):Mem r (x / y) := div_in hy.rt h.1 h.2 hx hy
theorem sqrt_mk {a:I} (hr:rt a = true) (h0:0 ≤ a.lo.q):∃ r,cSqrt qSqrt 0 a = (r,0) ∧ rt r = true ∧ SqD r.lo a.lo ∧ SqU r.hi a.hi := by
 have l := rt_le hr
 obtain ⟨x,e1,s1⟩ := (qSqrt_gen h0).1
 obtain ⟨y,e2,s2⟩ := (qSqrt_gen (a := a.hi) (by grind)).2
 refine ⟨⟨x,y⟩,?_,sq_rt (r := ⟨x,y⟩) hr h0 s1 s2,s1,s2⟩
 unfold cSqrt
 rw [e1,e2,ends_mk rfl rfl,ask_mk hr rfl]
theorem quot_bd {x y d M:Rat} (hd:0 < d) (hy:d ≤ y) (h1:-(M * d) ≤ x) (h2:x ≤ M * d) (hM:0 ≤ M):-M ≤ x / y ∧ x / y ≤ M := by
 have y0:0 < y := by grind
 have e:x / y * y = x := Rat.div_mul_cancel (by grind)
 have k := Rat.mul_nonneg hM (show 0 ≤ y - d by grind)
 generalize x / y = q at *
 constructor
 ·refine Rat.le_of_mul_le_mul_right (c := y) ?_ y0
  grind
 ·refine Rat.le_of_mul_le_mul_right (c := y) ?_ y0
  grind
theorem div_mk {a b:I} (ha:rt a = true) (hb:rt b = true) (h0:0 < b.lo.q) (h1:-(9007199254740992 * b.lo.q) ≤ a.lo.q) (h2:a.hi.q ≤ 9007199254740992 * b.lo.q) :
  ∃ r,cDiv pDiv 0 a b = (r,0) ∧ AllR r (a.lo.q / b.lo.q) (a.lo.q / b.hi.q) (a.hi.q / b.lo.q) (a.hi.q / b.hi.q) := by
 have la := rt_le ha; have lb := rt_le hb
 have z:hasB b F.zero = false := by
  unfold hasB
  rw [hb,Bool.true_and,Bool.and_eq_false_iff,decide_eq_false_iff_not,decide_eq_false_iff_not]
  left; intro k; have := q_le.2 k; rw [q_zero] at this; grind
 obtain ⟨c,hc⟩ := low_ex
 obtain ⟨d,hd⟩ := big_ex
 have p1 := quot_bd (x := a.lo.q) (y := b.lo.q) h0 Rat.le_refl h1 (by grind) (by grind)
 have p2 := quot_bd (x := a.lo.q) (y := b.hi.q) h0 lb h1 (by grind) (by grind)
 have p3 := quot_bd (x := a.hi.q) (y := b.lo.q) h0 Rat.le_refl (by grind) h2 (by grind)
 have p4 := quot_bd (x := a.hi.q) (y := b.hi.q) h0 lb (by grind) h2 (by grind)
 obtain ⟨r,e,hr,_⟩ := all_has (div_four (a := a) hb z) (c := c) (d := d) (by rw [hc]; exact p1.1) (by rw [hc]; exact p2.1) (by rw [hc]; exact p3.1) (by rw [hc]; exact p4.1) (by rw [hd]; exact p1.2) (by rw [hd]; exact p2.2) (by rw [hd]; exact p3.2) (by rw [hd]; exact p4.2)
 refine ⟨r,?_,hr⟩
 unfold cDiv
 rw [z,cond_false,e,ask_mk (by rw [ha,hb]; rfl) rfl]
theorem fl_ex (m:Int) (s:Nat) (hm:m.natAbs ≤ 9007199254740992) (hs:s ≤ 900) (w:Rat) (hw:((2 ^ s:Nat):Rat) * w = m):∃ c:F,c.q = w := by
 obtain ⟨c,hc⟩ := grid m hm s (by omega) (by omega)
 refine ⟨c,?_⟩
 have hp := pow_q s
 generalize ((2 ^ s:Nat):Rat) = p at *
 have:(c.q - w) * p = 0 := by grind
 rcases Rat.mul_eq_zero.1 this with e | e <;> grind
structure OneP (v:V3):Prop where
 x:In1 v.x
 y:In1 v.y
 z:In1 v.z
 up:1 / 128 ≤ v.z.lo.q
theorem pt_in {x:F} (h:N1 x):In1 (pt x) := ⟨q_le.1 (by rw [mone_q]; exact h.lo),q_le.1 (by rw [one_q]; exact h.hi),Int.le_refl _⟩
theorem un_okE {x y z:F} (hx:N1 x) (hy:N1 y) (z0:1 / 64 ≤ z.q) (z1:z.q ≤ 1):(unE KkR x y z).2 = 0 ∧ OneP (unV KkR x y z) := by
 have hz:N1 z := ⟨by grind,z1⟩
 have ix := pt_in hx; have iy := pt_in hy; have iz := pt_in hz
 obtain ⟨qx,e1,a1,m1⟩ := sqr_in ix
 obtain ⟨qy,e2,a2,m2⟩ := sqr_in iy
 obtain ⟨s1,e3,d3,u3⟩ := cAdd_ok a1.sm a2.sm
 obtain ⟨qz,e4,a4,m4⟩ := sqr_in iz
 have l1 := a1.lo; have h1 := a1.hi; have r1 := a1.rt; have l2 := a2.lo; have h2 := a2.hi; have r2 := a2.rt
 obtain ⟨f2,g2⟩ := fl_ex 2 0 (by decide) (by decide) 2 (by decide +kernel)
 obtain ⟨f4,g4⟩ := fl_ex 4 0 (by decide) (by decide) 4 (by decide +kernel)
 have s1lo:0 ≤ s1.lo.q := dn_nn d3 (by grind)
 have s1hi:s1.hi.q ≤ 2 := by have := u3.bot f2 (by rw [g2]; grind); rwa [g2] at this
 have s1rt:s1.lo.q ≤ s1.hi.q := by have := d3.le; have := u3.ge; grind
 have s1sm:Sm s1 := ⟨by grind,s1rt,by grind⟩
 obtain ⟨s2,e5,d5,u5⟩ := cAdd_ok s1sm a4.sm
 obtain ⟨f12,g12⟩ := fl_ex 1 12 (by decide) (by decide) (1 / 4096) (by decide +kernel)
 obtain ⟨f6,g6⟩ := fl_ex 1 6 (by decide) (by decide) (1 / 64) (by decide +kernel)
 obtain ⟨f7,g7⟩ := fl_ex 1 7 (by decide) (by decide) (1 / 128) (by decide +kernel)
 -- the square of z
 have qzlo:1 / 4096 ≤ qz.lo.q := by
  obtain ⟨r,e,d,_⟩ := cSqr_ok iz.sm
  have e':cSqr dMul 0 (pt z) = (qz,0) := e4
  rw [e'] at e
  obtain rfl:qz = r := congrArg Prod.fst e
  have b := bare_ends (a := pt z) (decide_eq_true (Int.le_refl _))
  have hb:(bareI (pt z)).lo.q * (bareI (pt z)).lo.q = z.q * z.q := by
   rcases b.1 with k | k
   ·have a := k.lo; have c := k.hi
    have:(bareI (pt z)).lo.q = z.q := by have:(pt z).lo.q = z.q := rfl; have:(pt z).hi.q = z.q := rfl; grind
    rw [this]
   ·have a := k.lo; have c := k.hi
    have:-(bareI (pt z)).lo.q = z.q := by have:(pt z).lo.q = z.q := rfl; have:(pt z).hi.q = z.q := rfl; grind
    grind
  rw [hb] at d
  rw [← g12]
  refine d.top f12 ?_
  rw [g12]
  have := sq_bd (x := 1 / 64) (m := z.q) (by grind) z0
  grind
 have l4 := a4.lo; have h4 := a4.hi; have r4 := a4.rt
 have s2lo:1 / 4096 ≤ s2.lo.q := by have := d5.top f12 (by rw [g12]; grind); rwa [g12] at this
 have s2hi:s2.hi.q ≤ 4 := by have := u5.bot f4 (by rw [g4]; grind); rwa [g4] at this
 have s2rt:s2.lo.q ≤ s2.hi.q := by have := d5.le; have := u5.ge; grind
 obtain ⟨nn,e6,r6,d6,u6⟩ := sqrt_mk (rt_q s2rt) (by grind)
 have nlo:1 / 64 ≤ nn.lo.q := by have := d6.top f6 (by rw [g6]; grind) (by rw [g6]; grind); rwa [g6] at this
 have nhi:nn.hi.q ≤ 2 := by have := u6.bot f2 (by rw [g2]; grind) (by rw [g2]; grind); rwa [g2] at this
 have nrt := rt_le r6
 have pr:∀ w:F,rt (pt w) = true := fun w => decide_eq_true (Int.le_refl _)
 have bd:∀ {w:F},N1 w → -(9007199254740992 * nn.lo.q) ≤ (pt w).lo.q ∧ (pt w).hi.q ≤ 9007199254740992 * nn.lo.q := by
  intro w hw
  have a := hw.lo; have b := hw.hi
  have:(pt w).lo.q = w.q := rfl
  have:(pt w).hi.q = w.q := rfl
  constructor <;> grind
 obtain ⟨dx,e7,_⟩ := div_mk (pr x) r6 (by grind) (bd hx).1 (bd hx).2
 obtain ⟨dy,e8,_⟩ := div_mk (pr y) r6 (by grind) (bd hy).1 (bd hy).2
 obtain ⟨dz,e9,h9⟩ := div_mk (pr z) r6 (by grind) (bd hz).1 (bd hz).2
 have hE:unE KkR x y z = ([withI dz,dz,withI dy,dy,withI dx,dx,nn,s2,qz,s1,qy,qx,pt z,pt y,pt x],0) := by
  unfold unE unP
  refine (eval_cons (r := pt x) (e' := 0) ?_).trans ?_
  ·exact rfl
  refine (eval_cons (r := pt y) (e' := 0) ?_).trans ?_
  ·exact rfl
  refine (eval_cons (r := pt z) (e' := 0) ?_).trans ?_
  ·exact rfl
  refine (eval_cons (r := qx) (e' := 0) ?_).trans ?_
  ·exact e1
  refine (eval_cons (r := qy) (e' := 0) ?_).trans ?_
  ·exact e2
  refine (eval_cons (r := s1) (e' := 0) ?_).trans ?_
  ·exact e3
  refine (eval_cons (r := qz) (e' := 0) ?_).trans ?_
  ·exact e4
  refine (eval_cons (r := s2) (e' := 0) ?_).trans ?_
  ·exact e5
  refine (eval_cons (r := nn) (e' := 0) ?_).trans ?_
  ·exact e6
  refine (eval_cons (r := dx) (e' := 0) ?_).trans ?_
  ·exact e7
  refine (eval_cons (r := withI dx) (e' := 0) ?_).trans ?_
  ·exact rfl
  refine (eval_cons (r := dy) (e' := 0) ?_).trans ?_
  ·exact e8
  refine (eval_cons (r := withI dy) (e' := 0) ?_).trans ?_
  ·exact rfl
  refine (eval_cons (r := dz) (e' := 0) ?_).trans ?_
  ·exact e9
  refine (eval_cons (r := withI dz) (e' := 0) ?_).trans ?_
  ·exact rfl
  rfl
 have hV:unV KkR x y z = ⟨withI dx,withI dy,withI dz⟩ := by unfold unV; rw [hE]; rfl
 rw [hV]
 refine ⟨by rw [hE],withI_in _,withI_in _,withI_in _,?_⟩
 -- z by the length
 have pz:(pt z).lo.q = z.q ∧ (pt z).hi.q = z.q := ⟨rfl,rfl⟩
 have low:∀ {w:Rat},nn.lo.q ≤ w → w ≤ nn.hi.q → 1 / 128 ≤ z.q / w := by
  intro w w0 w1
  have e:z.q / w * w = z.q := Rat.div_mul_cancel (by grind)
  generalize z.q / w = t at *
  apply Rat.not_lt.1
  intro g
  have := Rat.mul_pos (show 0 < 1 / 128 - t by grind) (show 0 < w by grind)
  grind
 have dzlo:1 / 128 ≤ dz.lo.q := by
  rw [← g7]
  have a := low Rat.le_refl nrt
  have b := low nrt Rat.le_refl
  refine h9.top ?_ ?_ ?_ ?_ <;> (rw [g7]; simp only [pz.1,pz.2]; assumption)
 have zn:z.q ≤ nn.hi.q := by
  refine sq_le' (by grind) (by grind) ?_
  have a := u6.ge
  have b := (m4 z.q ⟨Rat.le_refl,Rat.le_refl⟩).hi
  have c := u5.ge
  grind
 have top:z.q / nn.hi.q ≤ 1 := by
  have e:z.q / nn.hi.q * nn.hi.q = z.q := Rat.div_mul_cancel (by grind)
  generalize z.q / nn.hi.q = t at *
  apply Rat.not_lt.1
  intro g
  have := Rat.mul_pos (show 0 < t - 1 by grind) (show 0 < nn.hi.q by grind)
  grind
 have mz:Mem dz (z.q / nn.hi.q) := ⟨by have := h9.lo.2.1; simpa only [pz.1] using this,by have := h9.hi.2.1; simpa only [pz.1] using this⟩
 have b := low nrt Rat.le_refl
 show 1 / 128 ≤ (withI dz).lo.q
 rw [withI_eq mz (by grind) top]
 exact Rat.le_trans dzlo (mxF_q _ _).1
theorem un_ok {x y z:F} (hx:N1 x) (hy:N1 y) (z0:1 / 64 ≤ z.q) (z1:z.q ≤ 1):OneP (unV KkR x y z) := (un_okE hx hy z0 z1).2
theorem un_B {x y z:F} (hx:N1 x) (hy:N1 y) (z0:1 / 64 ≤ z.q) (z1:z.q ≤ 1):unB x y z = true := by
 have kt:decide (tiny64.k ≤ d64.k) = true := by decide +kernel
 have kh:decide (one64.k ≤ huge64.k) = true := by decide +kernel
 have kd:d64.q * 64 = 1 := q_of' (n := 1) (s := 6) (by decide +kernel) rfl
 have k1 := of_decide_eq_true kt
 have k2 := of_decide_eq_true kh
 have ab:∀ {w:F},N1 w → w.abs.k ≤ one64.k := by
  intro w hw
  have a := q_le.1 (show w.q ≤ one64.q by rw [one_q]; exact hw.hi)
  have b := q_le.1 (show mone64.q ≤ w.q by rw [mone_q]; exact hw.lo)
  have c:mone64.k = -one64.k := by decide +kernel
  show ((w.k.natAbs:Nat):Int) ≤ _
  omega
 have z2:d64.k ≤ z.abs.k := by
  have a := q_le.1 (show d64.q ≤ z.q by grind)
  show _ ≤ ((z.k.natAbs:Nat):Int)
  omega
 have a := ab hx; have b := ab hy; have c := ab (w := z) ⟨by grind,z1⟩
 unfold unB mostF
 have e:(mxF (mxF x.abs y.abs) z.abs).k = max (max x.abs.k y.abs.k) z.abs.k := by rw [mxF_k,mxF_k]
 rw [e,Bool.and_eq_true,Bool.not_eq_true',Bool.not_eq_true',decide_eq_false_iff_not,decide_eq_false_iff_not]
 constructor <;> omega
def rl:Rat := 4 * ulp
theorem rl_v:rl * 2251799813685248 = 1 := by unfold rl ulp; decide +kernel
theorem rel_ex {v:Rat}:∀ s:Nat,1 ≤ ((2 ^ s:Nat):Rat) * v → v ≤ 4 → ∃ k:Nat,k ≤ s ∧ 1 ≤ ((2 ^ k:Nat):Rat) * v ∧ ((2 ^ k:Nat):Rat) * v ≤ 4
 | 0, h, h4 => ⟨0, Nat.le_refl _, h, by have e : ((2 ^ 0 : Nat) : Rat) = 1 := by decide +kernel
                                        rw [e] at h ⊢; grind⟩
 | s + 1, h, h4 => by
   have e:((2 ^ (s + 1):Nat):Rat) = 2 * ((2 ^ s:Nat):Rat) := by rw [Nat.pow_succ,Nat.mul_comm,Rat.natCast_mul]; rfl
   by_cases g:1 ≤ ((2 ^ s:Nat):Rat) * v
   ·obtain ⟨k,h1,h2⟩ := rel_ex s g h4
    exact ⟨k,by omega,h2⟩
   ·refine ⟨s + 1,Nat.le_refl _,h,?_⟩
    rw [e]
    generalize ((2 ^ s:Nat):Rat) = p at *
    grind
theorem rel_ex3 {v:Rat}:∀ s:Nat,1 ≤ ((2 ^ s:Nat):Rat) * v → v ≤ 3 → ∃ k:Nat,k ≤ s ∧ 1 ≤ ((2 ^ k:Nat):Rat) * v ∧ ((2 ^ k:Nat):Rat) * v ≤ 3
 | 0, h, h4 => ⟨0, Nat.le_refl _, h, by have e : ((2 ^ 0 : Nat) : Rat) = 1 := by decide +kernel
                                        rw [e] at h ⊢; grind⟩
 | s + 1, h, h4 => by
   have e:((2 ^ (s + 1):Nat):Rat) = 2 * ((2 ^ s:Nat):Rat) := by rw [Nat.pow_succ,Nat.mul_comm,Rat.natCast_mul]; rfl
   by_cases g:1 ≤ ((2 ^ s:Nat):Rat) * v
   ·obtain ⟨k,h1,h2⟩ := rel_ex3 s g h4
    exact ⟨k,by omega,h2⟩
   ·refine ⟨s + 1,Nat.le_refl _,h,?_⟩
    rw [e]
    generalize ((2 ^ s:Nat):Rat) = p at *
    grind
theorem Dn.rel {r:F} {v:Rat} (h:Dn r v) {s:Nat} (hs:s ≤ 800) (hv:1 ≤ ((2 ^ s:Nat):Rat) * v) (h4:v ≤ 4):v - v * rl ≤ r.q := by
 obtain ⟨k,hk,h1,h2⟩ := rel_ex s hv h4
 have e:((2 ^ (k + 51):Nat):Rat) = 2251799813685248 * ((2 ^ k:Nat):Rat) := by rw [Nat.pow_add,Nat.mul_comm,Rat.natCast_mul]; rfl
 have n := h.near (k + 51) (by omega) (by rw [e]; generalize ((2 ^ k:Nat):Rat) = p at *; grind) (by rw [e]; generalize ((2 ^ k:Nat):Rat) = p at *; grind)
 rw [e] at n
 have hp:(0:Rat) < ((2 ^ k:Nat):Rat) := pow_q k
 have r0 := rl_v
 generalize ((2 ^ k:Nat):Rat) = p at *
 generalize rl = d at *
 -- (v - r) p 2^51 <= 1 <= p v
 have h3:(v - r.q) * (2251799813685248 * p) ≤ p * v := by grind
 have h5:v * d * (2251799813685248 * p) = p * v * (d * 2251799813685248) := by grind
 rw [r0,Rat.mul_one] at h5
 have h6:(v - v * d - r.q) * (2251799813685248 * p) = (v - r.q) * (2251799813685248 * p) - v * d * (2251799813685248 * p) := by grind
 have h4:(v - v * d - r.q) * (2251799813685248 * p) ≤ 0 := by rw [h6,h5]; grind
 apply Rat.not_lt.1
 intro g
 have := Rat.mul_pos (show 0 < v - v * d - r.q by grind) (show 0 < 2251799813685248 * p by grind)
 grind
theorem Up.rel {r:F} {v:Rat} (h:Up r v) {s:Nat} (hs:s ≤ 800) (hv:1 ≤ ((2 ^ s:Nat):Rat) * v) (h4:v ≤ 4):r.q ≤ v + v * rl := by
 obtain ⟨k,hk,h1,h2⟩ := rel_ex s hv h4
 have e:((2 ^ (k + 51):Nat):Rat) = 2251799813685248 * ((2 ^ k:Nat):Rat) := by rw [Nat.pow_add,Nat.mul_comm,Rat.natCast_mul]; rfl
 have n := h.near (k + 51) (by omega) (by rw [e]; generalize ((2 ^ k:Nat):Rat) = p at *; grind) (by rw [e]; generalize ((2 ^ k:Nat):Rat) = p at *; grind)
 rw [e] at n
 have hp:(0:Rat) < ((2 ^ k:Nat):Rat) := pow_q k
 have r0 := rl_v
 generalize ((2 ^ k:Nat):Rat) = p at *
 generalize rl = d at *
 have h3:(r.q - v) * (2251799813685248 * p) ≤ p * v := by grind
 have h5:v * d * (2251799813685248 * p) = p * v * (d * 2251799813685248) := by grind
 rw [r0,Rat.mul_one] at h5
 have h6:(r.q - v - v * d) * (2251799813685248 * p) = (r.q - v) * (2251799813685248 * p) - v * d * (2251799813685248 * p) := by grind
 have h4:(r.q - v - v * d) * (2251799813685248 * p) ≤ 0 := by rw [h6,h5]; grind
 apply Rat.not_lt.1
 intro g
 have := Rat.mul_pos (show 0 < r.q - v - v * d by grind) (show 0 < 2251799813685248 * p by grind)
 grind
structure Rl (n:Rat) (r v:Rat):Prop where
 lo:v - v * (n * rl) ≤ r
 hi:r ≤ v + v * (n * rl)
theorem rl_pos:0 < rl := by have := rl_v; generalize rl = d at *; grind
theorem Rl.add {n a b v w:Rat} (h:Rl n a v) (k:Rl n b w):Rl n (a + b) (v + w) := by
 have h1 := h.lo; have h2 := h.hi; have k1 := k.lo; have k2 := k.hi
 clear h k
 constructor
 ·generalize n * rl = e at *; grind
 ·generalize n * rl = e at *; grind
theorem Rl.dn {n v w:Rat} {r:F} (h:Rl n w v) (hv:0 ≤ v) (hn:0 ≤ n) (hn8:n ≤ 64) (hr:Dn r w) {s:Nat} (hs:s ≤ 800) (hw:1 ≤ ((2 ^ s:Nat):Rat) * w) (h4:w ≤ 4):v - v * ((n + 2) * rl) ≤ r.q := by
 have a := hr.rel hs hw h4
 have b := h.lo; have c := h.hi
 have r0 := rl_v; have rp := rl_pos
 clear hw
 generalize rl = d at *
 have vd:0 ≤ v * d := Rat.mul_nonneg hv (Rat.le_of_lt rp)
 have nd:n * d ≤ 1 := by
  have := Rat.mul_nonneg (show 0 ≤ 64 - n by grind) (Rat.le_of_lt rp)
  grind
 have e1 := Rat.mul_nonneg vd (show 0 ≤ 1 - n * d by grind)
 have e2 := Rat.mul_nonneg (show 0 ≤ v + v * (n * d) - w by grind) (Rat.le_of_lt rp)
 grind
theorem Rl.up {n v w:Rat} {r:F} (h:Rl n w v) (hv:0 ≤ v) (hn:0 ≤ n) (hn8:n ≤ 64) (hr:Up r w) {s:Nat} (hs:s ≤ 800) (hw:1 ≤ ((2 ^ s:Nat):Rat) * w) (h4:w ≤ 4):r.q ≤ v + v * ((n + 2) * rl) := by
 have a := hr.rel hs hw h4
 have b := h.lo; have c := h.hi
 have r0 := rl_v; have rp := rl_pos
 clear hw
 generalize rl = d at *
 have vd:0 ≤ v * d := Rat.mul_nonneg hv (Rat.le_of_lt rp)
 have nd:n * d ≤ 1 := by
  have := Rat.mul_nonneg (show 0 ≤ 64 - n by grind) (Rat.le_of_lt rp)
  grind
 have e1 := Rat.mul_nonneg vd (show 0 ≤ 1 - n * d by grind)
 have e2 := Rat.mul_nonneg (show 0 ≤ v + v * (n * d) - w by grind) (Rat.le_of_lt rp)
 grind
theorem fl_near {v:Rat} {s:Nat} (hs:s ≤ 800) (hv:1 ≤ ((2 ^ s:Nat):Rat) * v) (h4:v ≤ 3):(∃ c:F,v ≤ c.q ∧ c.q ≤ v + v * rl) ∧ ∃ c:F,c.q ≤ v ∧ v - v * rl ≤ c.q := by
 obtain ⟨k,hk,h1,h2⟩ := rel_ex3 s hv h4
 have e:((2 ^ (k + 51):Nat):Rat) = 2251799813685248 * ((2 ^ k:Nat):Rat) := by rw [Nat.pow_add,Nat.mul_comm,Rat.natCast_mul]; rfl
 have hp:(0:Rat) < ((2 ^ k:Nat):Rat) := pow_q k
 have r0 := rl_v
 have G := fun m hm => grid m hm (k + 51) (by omega) (by omega)
 rw [e] at G
 clear e hv
 generalize ((2 ^ k:Nat):Rat) = p at *
 have vW:1 * 2251799813685248 ≤ v * (2251799813685248 * p) ∧ v * (2251799813685248 * p) ≤ 3 * 2251799813685248 := by constructor <;> grind
 have f1 := Rat.floor_le (v * (2251799813685248 * p))
 have f2 := Rat.lt_floor_add_one (v * (2251799813685248 * p))
 have f3:(v * (2251799813685248 * p)).floor ≤ 6755399441055744 := by
  have:(((v * (2251799813685248 * p)).floor:Int):Rat) ≤ ((6755399441055744:Int):Rat) := by
   have e3:((6755399441055744:Int):Rat) = 3 * 2251799813685248 := by decide +kernel
   rw [e3]; exact Rat.le_trans f1 vW.2
  exact Rat.intCast_le_intCast.1 this
 have f0:(0:Int) ≤ (v * (2251799813685248 * p)).floor := Rat.le_floor_iff.2 (by have e0:((0:Int):Rat) = 0 := rfl; rw [e0]; grind)
 obtain ⟨c,hc⟩ := G ((v * (2251799813685248 * p)).floor + 1) (by omega)
 obtain ⟨d,hd⟩ := G (v * (2251799813685248 * p)).floor (by omega)
 rw [Rat.intCast_add] at hc f2
 have e1:((1:Int):Rat) = 1 := rfl
 rw [e1] at hc f2
 clear f0 f3 G
 generalize (((v * (2251799813685248 * p)).floor:Int):Rat) = m at *
 have hM:0 < 2251799813685248 * p := by grind
 have vr:v * rl * (2251799813685248 * p) = v * p * (rl * 2251799813685248) := by grind
 rw [r0,Rat.mul_one] at vr
 have cut:∀ {a b:Rat},a * (2251799813685248 * p) ≤ b * (2251799813685248 * p) → a ≤ b := fun h => Rat.le_of_mul_le_mul_right h hM
 refine ⟨⟨c,cut ?_,cut ?_⟩,d,cut ?_,cut ?_⟩
 ·rw [hc]; exact Rat.le_of_lt f2
 ·have:(v + v * rl) * (2251799813685248 * p) = v * (2251799813685248 * p) + v * rl * (2251799813685248 * p) := by grind
  rw [this,vr,hc]; grind
 ·rw [hd]; exact f1
 ·have:(v - v * rl) * (2251799813685248 * p) = v * (2251799813685248 * p) - v * rl * (2251799813685248 * p) := by grind
  rw [this,vr,hd]; grind
theorem SqD.rel {r a:F} (h:SqD r a) {s:Nat} (hs:s ≤ 800) (hv:1 ≤ ((2 ^ s:Nat):Rat) * r.q) (h4:r.q ≤ 2):a.q ≤ r.q * r.q + r.q * r.q * (8 * rl) := by
 have r0 := rl_v; have rp := rl_pos
 have hp:(0:Rat) < ((2 ^ s:Nat):Rat) := pow_q s
 have rpos:0 < r.q := by
  apply Rat.not_le.1
  intro g
  have := Rat.mul_nonneg (Rat.le_of_lt hp) (show 0 ≤ -r.q by grind)
  grind
 have rd:0 < r.q * rl := Rat.mul_pos rpos rp
 have hv':1 ≤ ((2 ^ s:Nat):Rat) * (r.q + r.q * rl) := by
  have := Rat.mul_nonneg (Rat.le_of_lt hp) (Rat.le_of_lt rd)
  generalize ((2 ^ s:Nat):Rat) = p at *
  grind
 have d1:rl ≤ 1 / 1024 := by generalize rl = d at *; grind
 have up3:r.q + r.q * rl ≤ 3 := by
  have := Rat.mul_nonneg (Rat.le_of_lt rpos) (show 0 ≤ 1 / 1024 - rl by grind)
  grind
 obtain ⟨⟨c,c1,c2⟩,_⟩ := fl_near hs hv' up3
 have cr:r.q < c.q := by grind
 have na:a.q < c.q * c.q := by
  apply Rat.not_le.1
  intro g
  have := h.top c (by grind) g
  grind
 clear hv hv' up3
 generalize rl = d at *
 generalize r.q = x at *
 generalize c.q = y at *
 -- y <= x (1 + d)^2,so y y <= x x (1 + d)^4
 have e1:y ≤ x + x * (3 * d) := by
  have := Rat.mul_nonneg (Rat.le_of_lt rd) (show 0 ≤ 1 - d by grind)
  grind
 have e2:y * y ≤ (x + x * (3 * d)) * (x + x * (3 * d)) := by
  have a1 := Rat.mul_nonneg (show 0 ≤ x + x * (3 * d) - y by grind) (show 0 ≤ y by grind)
  have a2 := Rat.mul_nonneg (show 0 ≤ x + x * (3 * d) - y by grind) (show 0 ≤ x + x * (3 * d) by grind)
  grind
 have xx:0 ≤ x * x := Rat.mul_nonneg (Rat.le_of_lt rpos) (Rat.le_of_lt rpos)
 have e3:0 ≤ x * x * d * (2 - 9 * d) := Rat.mul_nonneg (Rat.mul_nonneg xx (Rat.le_of_lt rp)) (by grind)
 grind
theorem SqU.rel {r a:F} (h:SqU r a) {s:Nat} (hs:s ≤ 799) (hv:1 ≤ ((2 ^ s:Nat):Rat) * r.q) (h4:r.q ≤ 2):r.q * r.q - r.q * r.q * (8 * rl) ≤ a.q := by
 have r0 := rl_v; have rp := rl_pos
 have hp:(0:Rat) < ((2 ^ s:Nat):Rat) := pow_q s
 have e:((2 ^ (s + 1):Nat):Rat) = 2 * ((2 ^ s:Nat):Rat) := by rw [Nat.pow_succ,Nat.mul_comm,Rat.natCast_mul]; rfl
 have rpos:0 < r.q := by
  apply Rat.not_le.1
  intro g
  have := Rat.mul_nonneg (Rat.le_of_lt hp) (show 0 ≤ -r.q by grind)
  grind
 have rd:0 < r.q * rl := Rat.mul_pos rpos rp
 have d1:rl ≤ 1 / 1024 := by generalize rl = d at *; grind
 have rh:r.q * rl ≤ r.q * (1 / 1024) := by
  have := Rat.mul_nonneg (Rat.le_of_lt rpos) (show 0 ≤ 1 / 1024 - rl by grind)
  grind
 have hv':1 ≤ ((2 ^ (s + 1):Nat):Rat) * (r.q - r.q * rl) := by
  rw [e]
  have := Rat.mul_nonneg (Rat.le_of_lt hp) (show 0 ≤ r.q - 2 * (r.q * rl) by grind)
  generalize ((2 ^ s:Nat):Rat) = p at *
  grind
 obtain ⟨_,c,c1,c2⟩ := fl_near (show s + 1 ≤ 800 by omega) hv' (by grind)
 have cn:0 ≤ c.q := by
  have := Rat.mul_nonneg (show 0 ≤ r.q - r.q * rl by grind) (show 0 ≤ 1 - rl by grind)
  grind
 have na:c.q * c.q < a.q := by
  apply Rat.not_le.1
  intro g
  have := h.bot c cn g
  grind
 clear hv hv' e
 generalize rl = d at *
 generalize r.q = x at *
 generalize c.q = y at *
 have e1:x - x * (2 * d) ≤ y := by
  have := Rat.mul_nonneg (Rat.le_of_lt rd) (Rat.le_of_lt rp)
  grind
 have x0:0 ≤ x - x * (2 * d) := by grind
 have e2:(x - x * (2 * d)) * (x - x * (2 * d)) ≤ y * y := by
  have a1 := Rat.mul_nonneg (show 0 ≤ y - (x - x * (2 * d)) by grind) cn
  have a2 := Rat.mul_nonneg (show 0 ≤ y - (x - x * (2 * d)) by grind) x0
  grind
 have xx:0 ≤ x * x := Rat.mul_nonneg (Rat.le_of_lt rpos) (Rat.le_of_lt rpos)
 have e3:0 ≤ x * x * d * (4 + 4 * d) := Rat.mul_nonneg (Rat.mul_nonneg xx (Rat.le_of_lt rp)) (by grind)
 grind
theorem sqr_pt {x:F} (hx:N1 x):∃ q,cSqr dMul 0 (pt x) = (q,0) ∧ Dn q.lo (x.q * x.q) ∧ Up q.hi (x.q * x.q) := by
 obtain ⟨q,e,d,u⟩ := cSqr_ok (pt_in hx).sm
 have b := bare_ends (a := pt x) (decide_eq_true (Int.le_refl _))
 have p1:(pt x).lo.q = x.q := rfl
 have p2:(pt x).hi.q = x.q := rfl
 refine ⟨q,e,?_,?_⟩
 ·have hb:(bareI (pt x)).lo.q * (bareI (pt x)).lo.q = x.q * x.q := by
   rcases b.1 with k | k
   ·have a := k.lo; have c := k.hi
    have:(bareI (pt x)).lo.q = x.q := by grind
    rw [this]
   ·have a := k.lo; have c := k.hi
    have:-(bareI (pt x)).lo.q = x.q := by grind
    grind
  rw [hb] at d; exact d
 ·have hb:(bareI (pt x)).hi.q * (bareI (pt x)).hi.q = x.q * x.q := by
   rcases b.2 with k | k
   ·have a := k.lo; have c := k.hi
    have:(bareI (pt x)).hi.q = x.q := by grind
    rw [this]
   ·have a := k.lo; have c := k.hi
    have:-(bareI (pt x)).hi.q = x.q := by grind
    grind
  rw [hb] at u; exact u
end Bu
