/- Sine and cosine of all parts of a turn: by polynomials of a great degree, and two pi to .. -/
import Derived.Test.YtejcekikbnlllaaGreatT05
import Derived.Test.YtejcekikbnlllaaGreatT01
set_option linter.all false
namespace Bu
open Rx Go
def Pn:Nat := 108186897132336501671189860107232812037024433449904255453032105652401399556415295650447645426109615791663852440790611725924098289051411293803597627783628992875781606797142447809002113722624038763429614362603269598492528372534912389940320599010908750142146048896834994846123892403256342974379471121410587286956157952799680419334352518886024445597522707822381433898
def P2:Rat := (Pn:Rat) / ((2 ^ 1200:Nat):Rat)
def dsL:Nat → List Rat
 | 0 => []
 | n + 1 => (((2 * n + 2) * (2 * n + 3):Nat):Rat) :: dsL n
def dcL:Nat → List Rat
 | 0 => []
 | n + 1 => (((2 * n + 1) * (2 * n + 2):Nat):Rat) :: dcL n
def hs (y:Rat):Rat := nestR y (dsL 150) 1
def hc (y:Rat):Rat := nestR y (dcL 150) 1
def sQ (z:Rat):Rat := z * hs (z * z)
def cQ (z:Rat):Rat := hc (z * z)
structure An (z:Rat):Prop where
 lo:-(101 / 128) ≤ z
 hi:z ≤ 101 / 128
theorem An.sq {z:Rat} (h:An z):0 ≤ z * z ∧ z * z ≤ 5 / 8 := ⟨sq_nn z,by have := sq_bd h.lo h.hi; grind⟩
def eps:Rat := 1 / ((2 ^ 1150:Nat):Rat)
set_option maxRecDepth 100000 in
theorem eighth:decide (sQ (P2 / 8) ≤ cQ (P2 / 8) + eps ∧ cQ (P2 / 8) ≤ sQ (P2 / 8) + eps) = true := by decide +kernel
theorem eps_pos:0 < eps := by
 have h:decide (0 < eps) = true := by decide +kernel
 exact of_decide_eq_true h
structure Nx (a b:Rat):Prop where
 le:a ≤ b + eps
 ge:b ≤ a + eps
theorem Nx.refl {a b:Rat} (h:a = b):Nx a b := by have := eps_pos; subst h; exact ⟨by grind,by grind⟩
def TT (t:Rat):Nat → Rat
 | 0 => 1
 | n + 1 => TT t n * t / ((n + 1:Nat):Rat)
def sm (f:Nat → Rat):Nat → Rat
 | 0 => 0
 | n + 1 => sm f n + f n
theorem nz (n:Nat):((n + 1:Nat):Rat) ≠ 0 := by
 intro h
 have := Rat.natCast_inj.1 (show ((n + 1:Nat):Rat) = ((0:Nat):Rat) from h)
 omega
def cv (a b:Rat) (n:Nat):Rat := sm (fun i => TT a i * TT b (n - i)) (n + 1)
def rs:Nat → Rat × Rat
 | 0 => (1,0)
 | n + 1 => (-(rs n).2,(rs n).1)
def ro (n:Nat):Rat := (rs n).1
structure Ab (x d:Rat):Prop where
 lo:-d ≤ x
 hi:x ≤ d
theorem Ab.mul {x y d e:Rat} (h:Ab x d) (k:Ab y e):Ab (x * y) (d * e) := by
 have a := h.lo; have b := h.hi; have a2 := k.lo; have b2 := k.hi
 have k1 := Rat.mul_nonneg (show 0 ≤ d - x by grind) (show 0 ≤ e - y by grind)
 have k2 := Rat.mul_nonneg (show 0 ≤ d - x by grind) (show 0 ≤ e + y by grind)
 have k3 := Rat.mul_nonneg (show 0 ≤ d + x by grind) (show 0 ≤ e - y by grind)
 have k4 := Rat.mul_nonneg (show 0 ≤ d + x by grind) (show 0 ≤ e + y by grind)
 exact ⟨by grind,by grind⟩
theorem Ab.nn {x d:Rat} (h:Ab x d):0 ≤ d := by have a := h.lo; have b := h.hi; grind
def dl:Rat := 1 / ((2 ^ 1160:Nat):Rat)
theorem An.ab {z:Rat} (h:An z):Ab z 2 := ⟨by have := h.lo; grind,by have := h.hi; grind⟩
end Bu
namespace Bu
structure Iv where
 lo:F
 hi:F
theorem Iv.ext' {a b:Iv} (h1:a.lo = b.lo) (h2:a.hi = b.hi):a = b := by cases a; cases b; simp only at h1 h2; subst h1 h2; rfl
instance:DecidableEq Iv := fun a b => if h:a.lo = b.lo ∧ a.hi = b.hi then isTrue (Iv.ext' h.1 h.2) else isFalse (fun e => h (by rw [e]; exact ⟨rfl,rfl⟩))
end Bu
namespace Bu
open Rx
def qSqrt (up:Bool) (a:F):F × Int := if a.k < 0 then (F.zero,12) else if a.k = 0 then (F.zero,0) else dSqrt up a
theorem natq_pos {n:Nat} (h:0 < n):(0:Rat) < (n:Rat) := by have := Rat.natCast_lt_natCast.2 h; simpa using this
theorem natq_nn (n:Nat):(0:Rat) ≤ (n:Rat) := by have := Rat.natCast_le_natCast.2 (Nat.zero_le n); simpa using this
structure SqP (a:F) (x:Nat) (p q:Nat):Prop where
 root:IsRoot (sqN a) x
 big:9223372036854775808 ≤ x
 hp:(sqE a / 2 + 1074).toNat = p
 hq:(-(sqE a / 2 + 1074)).toNat = q
 val:sqN a * 2 ^ (2 * p) = mn a * 2 ^ ex a * 2 ^ (2 * q) * 2 ^ 1074
theorem mn_pos' {a:F} (h:0 < a.k):mn a ≠ 0 := by
 intro h0
 have := z_parts a
 rw [h0,Nat.zero_mul,show sg a = false from decide_eq_false (by omega)] at this
 have h1:a.z = 0 := by simpa using this
 have := (z_zero a).1 h1
 omega
theorem sqP {a:F} (h:0 < a.k):∃ x p q,SqP a x p q ∧ root64 (sqN a) = x := by
 have hm := mn_pos' h
 have nb := norm_bounds hm (by have := mn_lt a; omega)
 have hN:85070591730234615865843651857942052864 ≤ sqN a ∧ sqN a < W128 := by
  have:W128 = 340282366920938463463374607431768211456 := rfl
  unfold sqN divM
  generalize mn a * 2 ^ nlz (mn a) = M at *
  split <;> omega
 have hr := root64_ok hN.2
 refine ⟨_,_,_,⟨hr,?_,rfl,rfl,?_⟩,rfl⟩
 ·rcases Nat.lt_or_ge (root64 (sqN a)) 9223372036854775808 with c | c
  ·exfalso
   have h1 := hr.lt
   have h2 := Nat.mul_le_mul (show root64 (sqN a) + 1 ≤ 9223372036854775808 from c) (show root64 (sqN a) + 1 ≤ 9223372036854775808 from c)
   omega
  ·exact c
 ·have he := sqE_even a
  unfold sqN divM
  unfold sqE at he ⊢
  split
  ·rename_i ho
   rw [if_pos ho] at he
   rw [show (9223372036854775808:Nat) = 2 ^ 63 from rfl]
   simp only [Nat.mul_assoc,← Nat.pow_add]
   congr 2
   omega
  ·rename_i ho
   rw [if_neg ho] at he
   rw [show (18446744073709551616:Nat) = 2 ^ 64 from rfl]
   simp only [Nat.mul_assoc,← Nat.pow_add]
   congr 2
   omega
theorem blen_63 {x:Nat} (h:9223372036854775808 ≤ x):53 ≤ blen x := by
 have := blen_ge (n := x) (k := 63) (by have e:(2:Nat) ^ 63 = 9223372036854775808 := rfl; omega)
 omega
theorem dSqrt_mid {a:F} {x p q:Nat} (h:SqP a x p q) (hx:root64 (sqN a) = x) (up:Bool) (hne:x * x ≠ sqN a) (n d:Nat) (h0:0 < n) (h1:n < d):dSqrt up a = rndR up (((x * d + n) * 2 ^ p:Nat):Int) (d * 2 ^ q) := by
 have hq := pow_pos' q
 have hp := pow_pos' p
 unfold dSqrt
 rw [hx,decide_eq_true hne]
 have e1:x * 2 ^ p * (d * 2 ^ q) = x * d * (2 ^ p * 2 ^ q) := by ac_rfl
 have e2:(x * d + n) * 2 ^ p * 2 ^ q = (x * d + n) * (2 ^ p * 2 ^ q) := by ac_rfl
 have e3:(x + 1) * 2 ^ p * (d * 2 ^ q) = (x + 1) * d * (2 ^ p * 2 ^ q) := by ac_rfl
 have hpq:0 < 2 ^ p * 2 ^ q := Nat.mul_pos hp hq
 have lt1:x * d < x * d + n := by omega
 have lt2:x * d + n < (x + 1) * d := by rw [Nat.add_mul]; omega
 refine rndG_eq_rndR (Nat.mul_pos (by omega) hq) ?_ ?_ ?_ (fun _ => blen_63 h.big)
 ·rw [h.hp,h.hq,e1,e2]; exact Nat.mul_le_mul_right _ (Nat.le_of_lt lt1)
 ·rw [h.hp,h.hq,e2,e3]; exact Nat.mul_lt_mul_of_pos_right lt2 hpq
 ·rw [h.hp,h.hq,e1,e2]
  constructor
  ·intro _ e
   have := Nat.eq_of_mul_eq_mul_right hpq e
   omega
  ·intro _; rfl
theorem dSqrt_eq {a:F} {x p q:Nat} (h:SqP a x p q) (hx:root64 (sqN a) = x) (up:Bool) (he:x * x = sqN a):dSqrt up a = rndR up ((x * 2 ^ p:Nat):Int) (2 ^ q) := by
 have hq := pow_pos' q
 have hp := pow_pos' p
 unfold dSqrt
 rw [hx,show decide (x * x ≠ sqN a) = false from decide_eq_false (fun k => k he)]
 refine rndG_eq_rndR hq ?_ ?_ ?_ (fun k => by cases k)
 ·rw [h.hp,h.hq]; exact Nat.le_refl _
 ·rw [h.hp,h.hq,Nat.add_mul,Nat.add_mul]
  have := Nat.mul_pos (show 0 < 1 * 2 ^ p by omega) hq
  omega
 ·rw [h.hp,h.hq]
  exact ⟨fun k => (by cases k),fun k => absurd rfl k⟩
def un (p q:Nat):Rat := ((2 ^ p:Nat):Rat) / ((S:Rat) * ((2 ^ q:Nat):Rat))
theorem un_pos (p q:Nat):0 < un p q := by
 have h1 := pow_q p
 have h2 := Rat.mul_pos S_gt (pow_q q)
 unfold un
 rw [Rat.div_def]
 exact Rat.mul_pos h1 (Rat.inv_pos.2 h2)
theorem un_val {a:F} {x p q:Nat} (h:SqP a x p q) (ha:0 < a.k):a.q = ((sqN a:Nat):Rat) * (un p q * un p q) := by
 have hz:a.z = ((mn a * 2 ^ ex a:Nat):Int) := by rw [z_parts,show sg a = false from decide_eq_false (by omega)]; rfl
 have e:((sqN a * 2 ^ (2 * p):Nat):Rat) = ((mn a * 2 ^ ex a * 2 ^ (2 * q) * 2 ^ 1074:Nat):Rat) := by rw [h.val]
 have e2:(2 ^ 1074:Nat) = S := S_eq.symm
 rw [e2,Nat.mul_comm 2 p,Nat.mul_comm 2 q,Nat.pow_mul,Nat.pow_mul,Nat.pow_two,Nat.pow_two] at e
 have e3:(2 ^ p) * (2 ^ p) = (2 ^ p * 2 ^ p:Nat) := rfl
 have hm := F.q_mul a
 rw [hz,Rat.intCast_natCast,Rat.natCast_mul] at hm
 rw [Rat.natCast_mul,Rat.natCast_mul,Rat.natCast_mul,Rat.natCast_mul,Rat.natCast_mul,← hm,Rat.natCast_mul] at e
 have hS := S_ne
 have hq := pow_q q
 unfold un
 generalize ((2 ^ p:Nat):Rat) = u at *
 generalize ((2 ^ q:Nat):Rat) = v at *
 generalize (S:Rat) = s at *
 generalize ((sqN a:Nat):Rat) = N at *
 generalize a.q = y at *
 grind
theorem mid_v (x n d p q:Nat) (hd:0 < d):((((x * d + n) * 2 ^ p:Nat):Int):Rat) / ((S:Rat) * ((d * 2 ^ q:Nat):Rat)) = ((x:Rat) + (n:Rat) / (d:Rat)) * un p q := by
 have hS := S_ne
 have hq := pow_q q
 have hd' := natq_pos hd
 unfold un
 rw [Rat.intCast_natCast,Rat.natCast_mul,Rat.natCast_add,Rat.natCast_mul,Rat.natCast_mul]
 generalize ((2 ^ p:Nat):Rat) = u at *
 generalize ((2 ^ q:Nat):Rat) = v at *
 generalize (S:Rat) = s at *
 generalize (x:Rat) = a at *
 generalize (n:Rat) = b at *
 generalize (d:Rat) = c at *
 grind
theorem eq_v (x p q:Nat):(((x * 2 ^ p:Nat):Int):Rat) / ((S:Rat) * ((2 ^ q:Nat):Rat)) = (x:Rat) * un p q := by
 unfold un
 rw [Rat.intCast_natCast,Rat.natCast_mul,Rat.div_def,Rat.div_def,Rat.mul_assoc]
theorem arch {δ:Rat} (h:0 < δ):∃ d:Nat,2 ≤ d ∧ 1 ≤ (d:Rat) * δ := by
 have h1 := Rat.lt_floor_add_one (1 / δ)
 have e:1 / δ * δ = 1 := Rat.div_mul_cancel (by grind)
 have h0:0 ≤ 1 / δ := by rw [Rat.div_def]; exact Rat.mul_nonneg (by grind) (Rat.le_of_lt (Rat.inv_pos.2 h))
 have hf:(0:Int) ≤ (1 / δ).floor := Rat.le_floor_iff.2 (by simpa using h0)
 obtain ⟨k,hk⟩ := Int.eq_ofNat_of_zero_le hf
 refine ⟨k + 2,by omega,?_⟩
 rw [hk] at h1
 have e2:(((k:Int) + 1:Int):Rat) = (k:Rat) + 1 := by rw [Rat.intCast_add,Rat.intCast_natCast]; rfl
 rw [e2] at h1
 rw [Rat.natCast_add,show ((2:Nat):Rat) = 2 from rfl]
 have k1 := Rat.mul_nonneg (Rat.le_of_lt h) (show 0 ≤ (k:Rat) + 1 - 1 / δ by grind)
 grind
theorem sq_lt {x y:Rat} (hx:0 ≤ x) (hy:0 ≤ y) (h:x * x < y * y):x < y := by
 apply Rat.not_le.1
 intro g
 have := Rat.mul_nonneg (show 0 ≤ x - y by grind) (show 0 ≤ x + y by grind)
 grind
theorem sq_le' {x y:Rat} (hx:0 ≤ x) (hy:0 ≤ y) (h:x * x ≤ y * y):x ≤ y := by
 apply Rat.not_lt.1
 intro g
 have := Rat.mul_pos (show 0 < x - y by grind) (show 0 < x + y by grind)
 grind
structure SqD (r a:F):Prop where
 nn:0 ≤ r.q
 le:r.q * r.q ≤ a.q
 top:∀ c:F,0 ≤ c.q → c.q * c.q ≤ a.q → c.q ≤ r.q
structure SqU (r a:F):Prop where
 nn:0 ≤ r.q
 ge:a.q ≤ r.q * r.q
 bot:∀ c:F,0 ≤ c.q → a.q ≤ c.q * c.q → r.q ≤ c.q
def E512:Nat := 2 ^ 512
def E1024:Nat := 2 ^ 1024
def MB:Rat := (E512:Rat)
theorem E_sq:decide (E1024 = E512 * E512 ∧ 0 < E512) = true := by decide +kernel
set_option maxRecDepth 100000 in
theorem max_zB:decide (F.max.z ≤ ((E1024 * S:Nat):Int)) = true := by decide +kernel
def hugeF:F := F.of ((1536 * 4503599627370496:Nat):Int)
set_option maxRecDepth 100000 in
theorem huge_z:decide (hugeF.z = ((2 * E512 * S:Nat):Int)) = true := by decide +kernel
attribute [irreducible] E512 E1024
theorem F_le (a:F):a.q ≤ MB * MB := by
 have hT := T_num
 have h1:a.q ≤ F.max.q := q_le.2 (by have := a.hk; rw [F.max_k]; omega)
 refine Rat.le_trans h1 ?_
 refine Rat.le_of_mul_le_mul_right (c := (S:Rat)) ?_ S_gt
 rw [F.q_mul]
 have h2 := Rat.intCast_le_intCast.2 (of_decide_eq_true max_zB)
 have h3:(E1024:Rat) = MB * MB := by unfold MB; rw [← Rat.natCast_mul,← (of_decide_eq_true E_sq).1]
 rw [← h3,← Rat.natCast_mul]
 exact h2
theorem huge_q:hugeF.q = 2 * MB := by
 have h := F.q_mul hugeF
 rw [of_decide_eq_true huge_z] at h
 have h2:(((2 * E512 * S:Nat):Int):Rat) = 2 * MB * (S:Rat) := by
  unfold MB
  rw [Rat.intCast_natCast,Rat.natCast_mul,Rat.natCast_mul]; rfl
 rw [h2] at h
 have hs := S_gt
 generalize (S:Rat) = s at *
 generalize MB = m at *
 have e:(hugeF.q - 2 * m) * s = 0 := by grind
 rcases Rat.mul_eq_zero.1 e with e | e
 ·grind
 ·grind
theorem MB_pos:0 < MB := by
 have h := Rat.natCast_lt_natCast.2 (of_decide_eq_true E_sq).2
 exact h
theorem sqrt_gen {a:F} (ha:0 < a.k):(∃ r,dSqrt false a = (r,0) ∧ SqD r a) ∧ ∃ r,dSqrt true a = (r,0) ∧ SqU r a := by
 obtain ⟨x,p,q,h,hx⟩ := sqP ha
 have hw := un_pos p q
 have hv := un_val h ha
 have eN:∀ n m:Nat,n ≤ m → (n:Rat) ≤ (m:Rat) := fun n m g => Rat.natCast_le_natCast.2 g
 have r1 := eN _ _ h.root.le
 have r2:((sqN a:Nat):Rat) < ((((x + 1) * (x + 1):Nat)):Rat) := Rat.natCast_lt_natCast.2 h.root.lt
 rw [Rat.natCast_mul] at r1
 rw [Rat.natCast_mul,Rat.natCast_add,show ((1:Nat):Rat) = 1 from rfl] at r2
 have x1:(1:Rat) ≤ (x:Rat) := by have := eN 1 x (by have := h.big; omega); simpa using this
 obtain ⟨big,hbig⟩:∃ c:F,c.q = 2 * MB := ⟨hugeF,huge_q⟩
 have hs := F_le a
 have hMB := MB_pos
 generalize MB = mb at *
 have hwv := Rat.mul_pos hw hw
 have xw:(x:Rat) * un p q ≤ mb := by
  refine sq_le' (Rat.mul_nonneg (by grind) (Rat.le_of_lt hw)) (by grind) ?_
  have := Rat.mul_nonneg (show 0 ≤ ((sqN a:Nat):Rat) - (x:Rat) * (x:Rat) by grind) (Rat.le_of_lt hwv)
  grind
 have wx := Rat.mul_nonneg (show 0 ≤ (x:Rat) - 1 by grind) (Rat.le_of_lt hw)
 by_cases he:x * x = sqN a
 ·-- a square
  have f1 := dSqrt_eq h hx false he
  have f2 := dSqrt_eq h hx true he
  have hn:((sqN a:Nat):Rat) = (x:Rat) * (x:Rat) := by rw [← he,Rat.natCast_mul]
  have v0:0 ≤ (x:Rat) * un p q := Rat.mul_nonneg (by grind) (Rat.le_of_lt hw)
  obtain ⟨r,g1,g2⟩ := rndR_dn (A := ((x * 2 ^ p:Nat):Int)) (B := 2 ^ q) (pow_pos' q) (eq_v x p q) F.zero (by rw [q_zero]; exact v0)
  obtain ⟨s,g3,g4⟩ := rndR_up (A := ((x * 2 ^ p:Nat):Int)) (B := 2 ^ q) (pow_pos' q) (eq_v x p q) big (by rw [hbig]; grind)
  have av:a.q = ((x:Rat) * un p q) * ((x:Rat) * un p q) := by rw [hv,hn]; grind
  generalize (x:Rat) * un p q = v at *
  refine ⟨⟨r,by rw [f1,g1],?_,?_,?_⟩,⟨s,by rw [f2,g3],?_,?_,?_⟩⟩
  ·rw [← q_zero]; exact g2.top F.zero (by rw [q_zero]; exact v0)
  ·have r0:0 ≤ r.q := by rw [← q_zero]; exact g2.top F.zero (by rw [q_zero]; exact v0)
   have := g2.le
   rw [av]; exact sq_bd (by grind) this
  ·intro c c0 hc
   exact g2.top c (sq_le' c0 v0 (by rw [← av]; exact hc))
  ·have := g4.ge; grind
  ·have := g4.ge
   rw [av]; exact sq_bd (by grind) this
  ·intro c c0 hc
   exact g4.bot c (sq_le' v0 c0 (by rw [← av]; exact hc))
 ·-- between
  have mid:∀ (up:Bool) (n d:Nat),0 < n → n < d → dSqrt up a = rndR up (((x * d + n) * 2 ^ p:Nat):Int) (d * 2 ^ q) := fun up n d => dSqrt_mid h hx up he n d
  have dn:∀ n d:Nat,0 < n → n < d → ∃ r,dSqrt false a = (r,0) ∧ Dn r (((x:Rat) + (n:Rat) / (d:Rat)) * un p q) := by
   intro n d h0 h1
   have hd := natq_pos (show 0 < d by omega)
   have hnd:0 ≤ (n:Rat) / (d:Rat) := by rw [Rat.div_def]; exact Rat.mul_nonneg (natq_nn n) (Rat.le_of_lt (Rat.inv_pos.2 hd))
   obtain ⟨r,g1,g2⟩ := rndR_dn (A := (((x * d + n) * 2 ^ p:Nat):Int)) (B := d * 2 ^ q) (Nat.mul_pos (by omega) (pow_pos' q)) (mid_v x n d p q (by omega)) F.zero (by rw [q_zero]; exact Rat.mul_nonneg (by grind) (Rat.le_of_lt hw))
   exact ⟨r,by rw [mid false n d h0 h1,g1],g2⟩
  have up:∀ n d:Nat,0 < n → n < d → ∃ r,dSqrt true a = (r,0) ∧ Up r (((x:Rat) + (n:Rat) / (d:Rat)) * un p q) := by
   intro n d h0 h1
   have hd := natq_pos (show 0 < d by omega)
   have hnd:(n:Rat) / (d:Rat) ≤ 1 := by
    have e:(n:Rat) / (d:Rat) * (d:Rat) = (n:Rat) := Rat.div_mul_cancel (by grind)
    have := eN n d (by omega)
    refine Rat.le_of_mul_le_mul_right (c := (d:Rat)) ?_ hd
    rw [e]; grind
   have k := Rat.mul_nonneg (show 0 ≤ 1 - (n:Rat) / (d:Rat) by grind) (Rat.le_of_lt hw)
   obtain ⟨r,g1,g2⟩ := rndR_up (A := (((x * d + n) * 2 ^ p:Nat):Int)) (B := d * 2 ^ q) (Nat.mul_pos (by omega) (pow_pos' q)) (mid_v x n d p q (by omega)) big (by rw [hbig]; grind)
   exact ⟨r,by rw [mid true n d h0 h1,g1],g2⟩
  obtain ⟨r,e1,_⟩ := dn 1 2 (by omega) (by omega)
  obtain ⟨s,e2,s2⟩ := up 1 2 (by omega) (by omega)
  have dn':∀ n d:Nat,0 < n → n < d → Dn r (((x:Rat) + (n:Rat) / (d:Rat)) * un p q) := by
   intro n d h0 h1
   obtain ⟨r',g1,g2⟩ := dn n d h0 h1
   rw [e1] at g1
   rw [(Prod.mk.inj g1).1]; exact g2
  have up':∀ n d:Nat,0 < n → n < d → Up s (((x:Rat) + (n:Rat) / (d:Rat)) * un p q) := by
   intro n d h0 h1
   obtain ⟨r',g1,g2⟩ := up n d h0 h1
   rw [e2] at g1
   rw [(Prod.mk.inj g1).1]; exact g2
  have divd:∀ d:Nat,2 ≤ d → ((d - 1:Nat):Rat) / (d:Rat) = 1 - 1 / (d:Rat) ∧ 0 < (d:Rat) := by
   intro d hd
   have h0 := natq_pos (show 0 < d by omega)
   have e:((d - 1:Nat):Rat) + 1 = (d:Rat) := by rw [show (1:Rat) = ((1:Nat):Rat) from rfl,← Rat.natCast_add,show d - 1 + 1 = d from by omega]
   refine ⟨?_,h0⟩
   generalize ((d - 1:Nat):Rat) = y at *
   generalize (d:Rat) = z at *
   grind
  have one_d:((1:Nat):Rat) = 1 := rfl
  have hlt:(x:Rat) * (x:Rat) < ((sqN a:Nat):Rat) := by
   have:x * x < sqN a := Nat.lt_of_le_of_ne h.root.le he
   have := Rat.natCast_lt_natCast.2 this
   rwa [Rat.natCast_mul] at this
  have a_lo:(x:Rat) * un p q * ((x:Rat) * un p q) < a.q := by
   rw [hv]
   have := Rat.mul_pos (show 0 < ((sqN a:Nat):Rat) - (x:Rat) * (x:Rat) by grind) hwv
   grind
  have a_hi:a.q < ((x:Rat) + 1) * un p q * (((x:Rat) + 1) * un p q) := by
   rw [hv]
   have := Rat.mul_pos (show 0 < ((x:Rat) + 1) * ((x:Rat) + 1) - ((sqN a:Nat):Rat) by grind) hwv
   grind
  have x0:0 ≤ (x:Rat) * un p q := Rat.mul_nonneg (by grind) (Rat.le_of_lt hw)
  have x2:0 ≤ ((x:Rat) + 1) * un p q := Rat.mul_nonneg (by grind) (Rat.le_of_lt hw)
  have r0:0 ≤ r.q := by
   rw [← q_zero]; exact (dn' 1 2 (by omega) (by omega)).top F.zero (by rw [q_zero]; exact Rat.mul_nonneg (by rw [one_d]; grind) (Rat.le_of_lt hw))
  -- near to below
  have near1:∀ y:Rat,(x:Rat) * un p q < y → ∃ d:Nat,2 ≤ d ∧ ((x:Rat) + ((1:Nat):Rat) / (d:Rat)) * un p q ≤ y := by
   intro y hy
   have hδ:0 < (y - (x:Rat) * un p q) / un p q := by rw [Rat.div_def]; exact Rat.mul_pos (by grind) (Rat.inv_pos.2 hw)
   obtain ⟨d,d1,d2⟩ := arch hδ
   have d0 := (divd d d1).2
   refine ⟨d,d1,?_⟩
   have e:(y - (x:Rat) * un p q) / un p q * un p q = y - (x:Rat) * un p q := Rat.div_mul_cancel (by grind)
   generalize (y - (x:Rat) * un p q) / un p q = δ at *
   have e3:(1:Rat) / (d:Rat) * (d:Rat) = 1 := Rat.div_mul_cancel (by grind)
   have k1:(1:Rat) / (d:Rat) ≤ δ := by
    refine Rat.le_of_mul_le_mul_right (c := (d:Rat)) ?_ d0
    rw [e3]; grind
   rw [one_d]
   have := Rat.mul_nonneg (show 0 ≤ δ - 1 / (d:Rat) by grind) (Rat.le_of_lt hw)
   grind
  have near2:∀ y:Rat,y < ((x:Rat) + 1) * un p q → ∃ d:Nat,2 ≤ d ∧ y ≤ ((x:Rat) + ((d - 1:Nat):Rat) / (d:Rat)) * un p q := by
   intro y hy
   have hδ:0 < (((x:Rat) + 1) * un p q - y) / un p q := by rw [Rat.div_def]; exact Rat.mul_pos (by grind) (Rat.inv_pos.2 hw)
   obtain ⟨d,d1,d2⟩ := arch hδ
   obtain ⟨dd,d0⟩ := divd d d1
   refine ⟨d,d1,?_⟩
   have e:(((x:Rat) + 1) * un p q - y) / un p q * un p q = ((x:Rat) + 1) * un p q - y := Rat.div_mul_cancel (by grind)
   generalize (((x:Rat) + 1) * un p q - y) / un p q = δ at *
   have e3:(1:Rat) / (d:Rat) * (d:Rat) = 1 := Rat.div_mul_cancel (by grind)
   have k1:(1:Rat) / (d:Rat) ≤ δ := by
    refine Rat.le_of_mul_le_mul_right (c := (d:Rat)) ?_ d0
    rw [e3]; grind
   rw [dd]
   have := Rat.mul_nonneg (show 0 ≤ δ - 1 / (d:Rat) by grind) (Rat.le_of_lt hw)
   grind
  have r3:r.q ≤ (x:Rat) * un p q := by
   apply Rat.not_lt.1
   intro g
   obtain ⟨d,d1,d2⟩ := near1 ((r.q + (x:Rat) * un p q) / 2) (by grind)
   have := (dn' 1 d (by omega) (by omega)).le
   grind
  have s3:((x:Rat) + 1) * un p q ≤ s.q := by
   apply Rat.not_lt.1
   intro g
   obtain ⟨d,d1,d2⟩ := near2 ((s.q + ((x:Rat) + 1) * un p q) / 2) (by grind)
   have := (up' (d - 1) d (by omega) (by omega)).ge
   grind
  refine ⟨⟨r,e1,r0,?_,?_⟩,⟨s,e2,by grind,?_,?_⟩⟩
  ·have := sq_bd (x := r.q) (m := (x:Rat) * un p q) (by grind) r3
   grind
  ·intro c c0 hc
   have hlt := sq_lt c0 x2 (by grind)
   obtain ⟨d,d1,d2⟩ := near2 c.q hlt
   exact (dn' (d - 1) d (by omega) (by omega)).top c d2
  ·have := sq_bd (x := ((x:Rat) + 1) * un p q) (m := s.q) (by grind) s3
   grind
  ·intro c c0 hc
   have hlt := sq_lt x0 c0 (by grind)
   obtain ⟨d,d1,d2⟩ := near1 c.q hlt
   exact (up' 1 d (by omega) (by omega)).bot c d2
end Bu
namespace Bu
open Rx Go
structure Kq where
 ib:I → Bool
 si:I → I
 co:I → I
 uo:Int → I
 u:Int → Bool
 sqrt:Int → I → I × Int
 mul:Int → I → I → I × Int
 sub:Int → I → I → I × Int
 max:Int → I → I → I × Int
 num:Int → F → I × Int
def dR (N:Kq) (a:Int):I × Int := N.sqrt 0 (N.uo a)
def dX (N:Kq) (a b:Int):I × Int := N.mul (dR N a).2 (dR N a).1 (N.co (N.uo b))
def dY (N:Kq) (a b:Int):I × Int := N.mul (dX N a b).2 (dR N a).1 (N.si (N.uo b))
def dO (N:Kq) (a b:Int):I × Int := N.num (dY N a b).2 one64
def keptI (a:I) (l h:F):I := ⟨mnF (mxF a.lo l) h,mnF (mxF a.hi l) h⟩
theorem qSqrt_gen {a:F} (h0:0 ≤ a.q):(∃ r,qSqrt false a = (r,0) ∧ SqD r a) ∧ ∃ r,qSqrt true a = (r,0) ∧ SqU r a := by
 have hk:0 ≤ a.k := by have := q_le.1 (show F.zero.q ≤ a.q by rw [q_zero]; exact h0); exact this
 unfold qSqrt
 have hk':¬ a.k < 0 := by omega
 simp only [if_neg hk']
 by_cases hz:a.k = 0
 ·simp only [if_pos hz]
  have ha:a = F.zero := F.ext' hz
  subst ha
  refine ⟨⟨F.zero,rfl,?_,?_,?_⟩,⟨F.zero,rfl,?_,?_,?_⟩⟩
  ·rw [q_zero]; exact Rat.le_refl
  ·rw [q_zero]; grind
  ·intro c c0 hc
   rw [q_zero] at hc ⊢
   exact sq_le' c0 Rat.le_refl (by grind)
  ·rw [q_zero]; exact Rat.le_refl
  ·rw [q_zero]; grind
  ·intro c c0 _
   rw [q_zero]; exact c0
 ·simp only [if_neg hz]
  exact sqrt_gen (by omega)
theorem zero0_q:(toF 0).q = 0 := consts.2.2.2.2.2.2.2
set_option maxRecDepth 100000 in
theorem one64_nv:nv 4607182418800017408 = S := of_decide_eq_true (by decide +kernel)
theorem near_int {n:Nat} (h:n ≤ 9007199254740992):FloatKind.f64.nearest (n:Int) = (F.dy n 0).b := by
 have := nat_conv (m := n) (by have:P = 4503599627370496 := rfl; omega)
 rw [← this]; rfl
theorem add_zero_F (b:F):Ieee.double.add b.b (toF 0).b = some b.b := by
 have ez:(toF 0).z = 0 := by rw [show toF 0 = F.zero from F.ext' (by decide +kernel)]; exact F.zero_z
 rw [add_F,ez,Int.add_zero]
 by_cases h:b.k = 0
 ·have e:b = F.zero := F.ext' h
  subst e
  rw [if_pos F.zero_z]; rfl
 ·rw [if_neg (fun k => h ((z_zero _).1 k))]
  congr 1
  rw [z_natAbs',near_exact (r := b.k.natAbs) (by decide) (by omega)]
  have := b.hk
  rw [show min b.k.natAbs T = b.k.natAbs from by omega,← word_sign _ h]
  congr 1
  exact decide_eq_decide.2 (z_sign _)
end Bu
