/- Known functions, in plain words: of directed rounding. Words added, subtracted: plain. .. -/
import Derived.Test.YtejcekikbnlllaaGreatT04
import Derived.Test.YtejcekikbnlllaaGreatT01
import Derived.Laws.BitsLemmas
set_option linter.all false
namespace Rx
open Go Bu
def oRight:List SV → Dec → Option (SV × Dec × Obs)
 | [.fl _],ds => some (.b true,ds,[])
 | [.f w], ds => match takeB ds (rightB w) with
   | some (true,ds',ob) => some (.b true,ds',ob)
   | some (false,ds',ob) => some (.b false,ds',(Nat.blt w 18446744073709551616,true) :: ob)
   | none => none
 | _,_ => none
def ldF (x:F) (n:Int):F := if 0 ≤ n then F.of (flZ (x.z * ((2 ^ n.toNat:Nat):Int))) else F.of (flZ (x.z / ((2 ^ (-n).toNat:Nat):Int)))
instance (x y:F) (n:Int):Decidable (Sc x y n) := by unfold Sc; infer_instance
def oLdexp:List SV → Dec → Option (SV × Dec × Obs)
 | [.fl x, n], ds => match intS n with
   | some (.i64,k) => some (.fl (ldF x k),ds,[(decide (Sc x (ldF x k) k),true)])
   | _ => none
 | _,_ => none
def oConst (x:SV):List SV → Dec → Option (SV × Dec × Obs)
 | [],ds => some (x,ds,[])
 | _,_ => none
theorem zero_k':(toF 0).k = 0 := by decide +kernel
def oFb:List SV → Option (SV × Obs)
 | [.f x] => some (.si .u64 x,[])
 | [.fl x] => some (.si .u64 x.b,[])
 | _ => none
def oFf:List SV → Option (SV × Obs)
 | [.si .u64 n] => some (.f n.toNat,[])
 | [.i .u64 n] => some (.f n.toNat,[])
 | _ => none
def u64B (n:Int):Bool := decide (0 ≤ n ∧ n ≤ 18446744073709551615)
def oAdd64:List SV → Option (SV × Obs)
 | [x, y, z] => match intS x, intS y, intS z with
   | some (.u64,a),some (.u64,b),some (.u64,c) => some (.tup [.si .u64 ((a + b + c) % 18446744073709551616),.si .u64 ((a + b + c) / 18446744073709551616)],[(decide (0 ≤ a ∧ 0 ≤ b ∧ 0 ≤ c ∧ c ≤ 1),true)])
   | _,_,_ => none
 | _ => none
def oSub64:List SV → Option (SV × Obs)
 | [x, y, z] => match intS x, intS y, intS z with
   | some (.u64,a),some (.u64,b),some (.u64,c) => some (.tup [.si .u64 ((a - b - c) % 18446744073709551616),.si .u64 (if a < b + c then 1 else 0)],[(decide (0 ≤ a ∧ 0 ≤ b ∧ 0 ≤ c ∧ c ≤ 1 ∧ a ≤ 18446744073709551615 ∧ b ≤ 18446744073709551615),true)])
   | _,_,_ => none
 | _ => none
end Rx
namespace Bu
theorem W128_q:W128 = 18446744073709551616 * 18446744073709551616 := by decide
theorem wn_same {m s:Nat} (h:m * 18446744073709551616 + s < W128):wn (((m:Int) + hi s + (0 + lo s + 0) / 18446744073709551616) % 18446744073709551616) ((0 + lo s + 0) % 18446744073709551616) = m * 18446744073709551616 + s := by
 rw [W128_q] at h
 unfold wn hi lo
 omega
theorem bor_yes {x y:Int} (h:x < y):(if x < y then (1:Int) else 0) = 1 := if_pos h
theorem bor_no {x y:Int} (h:¬ x < y):(if x < y then (1:Int) else 0) = 0 := if_neg h
theorem wn_opp {m s:Nat} (h:m * 18446744073709551616 < W128) (hs:s ≤ m * 18446744073709551616) :
  wn (((m:Int) - hi s - (if (0:Int) < lo s + 0 then 1 else 0)) % 18446744073709551616) ((0 - lo s - 0) % 18446744073709551616) = m * 18446744073709551616 - s := by
 rw [W128_q] at h
 by_cases c:(0:Int) < lo s + 0
 ·rw [bor_yes c]
  unfold wn hi lo at *
  omega
 ·rw [bor_no c]
  unfold wn hi lo at *
  omega
theorem wn_one {h l:Int} {V:Nat} (h0:0 ≤ h) (h1:h < 18446744073709551616) (l0:0 ≤ l) (l1:l < 18446744073709551616) (hv:wn h l = V) (hp:1 ≤ V) :
  wn ((h - 0 - (if l < 1 + 0 then 1 else 0)) % 18446744073709551616) ((l - 1 - 0) % 18446744073709551616) = V - 1 := by
 subst hv
 obtain ⟨a,rfl⟩ := Int.eq_ofNat_of_zero_le h0
 obtain ⟨b,rfl⟩ := Int.eq_ofNat_of_zero_le l0
 unfold wn at hp ⊢
 by_cases c:(b:Int) < 1 + 0
 ·rw [bor_yes c]
  have e1:((b:Int) - 1 - 0) % 18446744073709551616 = 18446744073709551615 := by omega
  have e2:((a:Int) - 0 - 1) % 18446744073709551616 = (a:Int) - 1 := by omega
  rw [e1,e2]
  omega
 ·rw [bor_no c]
  have e1:((b:Int) - 1 - 0) % 18446744073709551616 = (b:Int) - 1 := by omega
  have e2:((a:Int) - 0 - 0) % 18446744073709551616 = (a:Int) := by omega
  rw [e1,e2]
  omega
open Go Rx
def dI (a b:F):Int := IntKind.i64.wrap (((ex a:Int) - 1074) - ((ex b:Int) - 1074))
def sI (a b:F):Nat := wn (mn b) 0 / 2 ^ (dI a b).toNat
def eI (a:F):Int := IntKind.i64.wrap (((ex a:Int) - 1074) - 64)
theorem wrap_small {n:Int} (h:-9223372036854775808 ≤ n) (h2:n < 9223372036854775808):IntKind.i64.wrap n = n := by rw [IntKind.wrap_i64]; omega
theorem eI_eq (a:F):eI a = (ex a:Int) - 1074 - 64 := by
 have h1 := ex_le a
 exact wrap_small (by omega) (by omega)
theorem dI_eq {a b:F} (hle:ex b ≤ ex a):dI a b = ((ex a - ex b:Nat):Int) := by
 have h1 := ex_le a
 have h2 := ex_le b
 have:((ex a - ex b:Nat):Int) = ((ex a:Int) - 1074) - ((ex b:Int) - 1074) := by omega
 rw [this]
 exact wrap_small (by omega) (by omega)
theorem wn_zero (n:Nat):wn n 0 = n * 18446744073709551616 := by
 unfold wn
 rw [Int.toNat_natCast,Int.toNat_zero,Nat.add_zero]
theorem sI_eq {a b:F} (hle:ex b ≤ ex a):sI a b = smallN (mn b) (ex a - ex b) := by
 unfold sI smallN
 rw [dI_eq hle,wn_zero,Int.toNat_natCast]
theorem mI_eq {a b:F} (hle:ex b ≤ ex a):decide (wn (mn b) 0 % 2 ^ (dI a b).toNat ≠ 0) = moreN (mn b) (ex a - ex b) := by
 unfold moreN
 rw [dI_eq hle,wn_zero,Int.toNat_natCast]
def mI (a b:F) (d:Bool):Obs := [(u64B (mn b),true),(u64B 0,true),(decide (0 ≤ dI a b),true),(decide (wn (mn b) 0 % 2 ^ (dI a b).toNat ≠ 0),d)]
def hS (a b:F):Int := ((mn a:Int) + hi (sI a b) + (0 + lo (sI a b) + 0) / 18446744073709551616) % 18446744073709551616
def lS (a b:F):Int := (0 + lo (sI a b) + 0) % 18446744073709551616
def hO (a b:F):Int := ((mn a:Int) - hi (sI a b) - (if (0:Int) < lo (sI a b) + 0 then 1 else 0)) % 18446744073709551616
def lO (a b:F):Int := (0 - lo (sI a b) - 0) % 18446744073709551616
def hM (a b:F):Int := (hO a b - 0 - (if lO a b < 1 + 0 then 1 else 0)) % 18446744073709551616
def lM (a b:F):Int := (lO a b - 1 - 0) % 18446744073709551616
def hA (same more:Bool) (a b:F):Int := if same then hS a b else if more then hM a b else hO a b
def lA (same more:Bool) (a b:F):Int := if same then lS a b else if more then lM a b else lO a b
def w1 (a b:F):Obs := [(u64B (mn a),true),(u64B 0,true),(u64B (hi (sI a b)),true),(u64B (lo (sI a b)),true)]
def w2 (a b:F):Obs := [(u64B (hO a b),true),(u64B (lO a b),true),(u64B 0,true),(u64B 1,true)]
def rd (h l e:Int):Obs := [(u64B h,true),(u64B l,true),(decide (-5000 ≤ e ∧ e ≤ 5000),true)]
def wAll (same more:Bool) (a b:F):Obs := if same then w1 a b else if more then w2 a b ++ w1 a b else w1 a b
def obA (same more:Bool) (a b:F):Obs := rd (hA same more a b) (lA same more a b) (eI a) ++ wAll same more a b ++ mI a b more
theorem u64_mk {n:Int} (h0:0 ≤ n) (h1:n ≤ 18446744073709551615):u64B n = true := decide_eq_true ⟨h0,h1⟩
theorem mod_u64 (n:Int):u64B (n % 18446744073709551616) = true := u64_mk (by omega) (by omega)
theorem hO_u (a b:F):u64B (hO a b) = true := mod_u64 _
theorem lO_u (a b:F):u64B (lO a b) = true := mod_u64 _
theorem hO_r (a b:F):0 ≤ hO a b ∧ hO a b < 18446744073709551616 := by unfold hO; omega
theorem lO_r (a b:F):0 ≤ lO a b ∧ lO a b < 18446744073709551616 := by unfold lO; omega
theorem hA_u (s m:Bool) (a b:F):u64B (hA s m a b) = true := by
 unfold hA hS hM
 split
 ·exact mod_u64 _
 ·split
  ·exact mod_u64 _
  ·exact hO_u a b
theorem lA_u (s m:Bool) (a b:F):u64B (lA s m a b) = true := by
 unfold lA lS lM
 split
 ·exact mod_u64 _
 ·split
  ·exact mod_u64 _
  ·exact lO_u a b
theorem mn_u64 (x:F):u64B (mn x) = true := u64_mk (by omega) (by have := mn_lt x; omega)
theorem u64_0:u64B 0 = true := by decide
theorem u64_1:u64B 1 = true := by decide
theorem obsB_app (a b:Obs):obsB (a ++ b) = (obsB a && obsB b) := List.all_append
theorem obsB_cons (c d:Bool) (r:Obs):obsB ((c,d) :: r) = ((c == d) && obsB r) := rfl
theorem obsB_nil:obsB [] = true := rfl
theorem obsB_yes {c d:Bool} {r:Obs} (h:c = d) (hr:obsB r = true):obsB ((c,d) :: r) = true := by rw [obsB_cons,h,hr,Bool.and_true,beq_self_eq_true]
theorem hv_add {a b:F} (h:Fst a b):wn (hA (sg a == sg b) (moreN (mn b) (ex a - ex b)) a b) (lA (sg a == sg b) (moreN (mn b) (ex a - ex b)) a b) = addN (sg a == sg b) (mn a) (mn b) (ex a - ex b) := by
 have hle:ex b ≤ ex a := by unfold Fst at h; omega
 have h5 := small_le (al_of h)
 have h6 := (wn_add true (al_of h)).2
 have hO1 := hO_r a b
 have lO1 := lO_r a b
 have h7:smallN (mn b) (ex a - ex b) ≤ mn a * 18446744073709551616 := Nat.le_trans (Nat.le_add_right _ _) h5
 have h8:mn a * 18446744073709551616 < W128 := Nat.lt_of_le_of_lt (Nat.le_add_right _ _) h6
 have hop:wn (hO a b) (lO a b) = mn a * 18446744073709551616 - smallN (mn b) (ex a - ex b) := by
  unfold hO lO
  rw [sI_eq hle]
  exact wn_opp h8 h7
 unfold hA lA addN
 cases (sg a == sg b) with
 | true =>
   rw [if_pos rfl,if_pos rfl,if_pos rfl]
   unfold hS lS
   rw [sI_eq hle]
   exact wn_same h6
 | false =>
   rw [if_neg Bool.false_ne_true,if_neg Bool.false_ne_true,if_neg Bool.false_ne_true]
   cases hm:moreN (mn b) (ex a - ex b) with
   | false => rw [if_neg Bool.false_ne_true,if_neg Bool.false_ne_true,if_neg Bool.false_ne_true,Nat.sub_zero]; exact hop
   | true =>
     rw [hm,if_pos rfl] at h5
     rw [if_pos rfl,if_pos rfl,if_pos rfl]
     exact wn_one hO1.1 hO1.2 lO1.1 lO1.2 hop (Nat.le_sub_of_add_le (by rw [Nat.add_comm]; exact h5))
theorem add_val {a b:F} (up:Bool) (h:Fst a b) :
  rndG (sg a) (wn (hA (sg a == sg b) (moreN (mn b) (ex a - ex b)) a b) (lA (sg a == sg b) (moreN (mn b) (ex a - ex b)) a b)) (moreN (mn b) (ex a - ex b)) (eI a) up = dAdd up a b := by
 rw [hv_add h,eI_eq,rndG_dAdd up h]
theorem er_ok (a:F):decide (-5000 ≤ eI a ∧ eI a ≤ 5000) = true := by
 have h1 := ex_le a
 have h2 := eI_eq a
 exact decide_eq_true (by omega)
theorem d0_ok {a b:F} (h:ex b ≤ ex a):decide (0 ≤ dI a b) = true := by
 have h2 := dI_eq h
 exact decide_eq_true (by omega)
theorem w1_ok {a b:F} (h:Fst a b):obsB (w1 a b) = true := by
 have hle:ex b ≤ ex a := by unfold Fst at h; omega
 have hs:u64B (hi (sI a b)) = true := by
  refine u64_mk (hi_nonneg _) (hi_le _ ?_)
  rw [sI_eq hle]
  exact Nat.lt_of_le_of_lt (Nat.le_add_left _ _) (wn_add true (al_of h)).2
 exact obsB_yes (mn_u64 a) (obsB_yes u64_0 (obsB_yes hs (obsB_yes (u64_mk (lo_nonneg _) (lo_le _)) obsB_nil)))
theorem w2_ok (a b:F):obsB (w2 a b) = true := obsB_yes (hO_u a b) (obsB_yes (lO_u a b) (obsB_yes u64_0 (obsB_yes u64_1 obsB_nil)))
theorem mI_ok {a b:F} (hle:ex b ≤ ex a):obsB (mI a b (moreN (mn b) (ex a - ex b))) = true :=
 obsB_yes (mn_u64 b) (obsB_yes u64_0 (obsB_yes (d0_ok hle) (obsB_yes (mI_eq hle) obsB_nil)))
theorem rd_ok (s m:Bool) (a b:F):obsB (rd (hA s m a b) (lA s m a b) (eI a)) = true := obsB_yes (hA_u s m a b) (obsB_yes (lA_u s m a b) (obsB_yes (er_ok a) obsB_nil))
theorem wAll_ok {a b:F} (s m:Bool) (h:Fst a b):obsB (wAll s m a b) = true := by
 unfold wAll
 split
 ·exact w1_ok h
 ·split
  ·rw [obsB_app,w1_ok h,w2_ok]; rfl
  ·exact w1_ok h
theorem obA_ok {a b:F} (same:Bool) (h:Fst a b):obsB (obA same (moreN (mn b) (ex a - ex b)) a b) = true := by
 have hle:ex b ≤ ex a := by unfold Fst at h; omega
 unfold obA
 rw [obsB_app,obsB_app,rd_ok,wAll_ok _ _ h,mI_ok hle]; rfl
end Bu
namespace Bu
open Rx Go
structure Kd where
 sg:F → Bool
 mn:F → Int
 ex:F → Int
 dh:Int → Int → Int → Int
 dl:Int → Int → Int → Int
 dm:Int → Int → Int → Bool
 dn:Int → Bool
 u:Int → Bool
 rF:Bool → Int → Int → Bool → Int → Bool → F
 rI:Bool → Int → Int → Bool → Int → Bool → Int
 re:Int → Bool
 ah:Int → Int → Int → Int → Int
 al:Int → Int → Int → Int → Int
 sh:Int → Int → Int → Int → Int
 sl:Int → Int → Int → Int → Int
def kParts (K:Kd):List SV → Dec → Option (SV × Dec × Obs)
 | [.fl x],ds => (takeB ds (K.sg x)).map fun r => (.tup [.b r.1,.si .u64 (K.mn x),.si .i64 (K.ex x)],r.2.1,r.2.2)
 | _,_ => none
def kDown (K:Kd):List SV → Dec → Option (SV × Dec × Obs)
 | [.agg [x, y], z], ds => match intS x, intS y, intS z with
   | some (.u64, a), some (.u64, b), some (.i64, n) => (takeB ds (K.dm a b n)).map fun r =>
     (.tup [.agg [.si .u64 (K.dh a b n),.si .u64 (K.dl a b n)],.b r.1],r.2.1,(K.u a,true) :: (K.u b,true) :: (K.dn n,true) :: r.2.2)
   | _,_,_ => none
 | _,_ => none
def kRound (K:Kd):List SV → Dec → Option (SV × Dec × Obs)
 | [.agg [.b minus, x, y, .b more, z], .b up], ds => match intS x, intS y, intS z with
   | some (.u64,a),some (.u64,b),some (.i64,e) => some (.tup [.fl (K.rF minus a b more e up),.si .i64 (K.rI minus a b more e up)],ds,[(K.u a,true),(K.u b,true),(K.re e,true)])
   | _,_,_ => none
 | _,_ => none
def kWadd (K:Kd):List SV → Dec → Option (SV × Dec × Obs)
 | [.agg [x, y], .agg [z, t]], ds => match intS x, intS y, intS z, intS t with
   | some (.u64,a),some (.u64,b),some (.u64,c),some (.u64,d) => some (.agg [.si .u64 (K.ah a b c d),.si .u64 (K.al a b c d)],ds,[(K.u a,true),(K.u b,true),(K.u c,true),(K.u d,true)])
   | _,_,_,_ => none
 | _,_ => none
def kWsub (K:Kd):List SV → Dec → Option (SV × Dec × Obs)
 | [.agg [x, y], .agg [z, t]], ds => match intS x, intS y, intS z, intS t with
   | some (.u64,a),some (.u64,b),some (.u64,c),some (.u64,d) => some (.agg [.si .u64 (K.sh a b c d),.si .u64 (K.sl a b c d)],ds,[(K.u a,true),(K.u b,true),(K.u c,true),(K.u d,true)])
   | _,_,_,_ => none
 | _,_ => none
def KR:Kd where
 sg := sg
 mn := fun x => (mn x:Int)
 ex := fun x => (ex x:Int) - 1074
 dh := fun a b n => hi (wn a b / 2 ^ n.toNat)
 dl := fun a b n => lo (wn a b / 2 ^ n.toNat)
 dm := fun a b n => decide (wn a b % 2 ^ n.toNat ≠ 0)
 dn := fun n => decide (0 ≤ n)
 u := u64B
 rF := fun minus a b more e up => (rndG minus (wn a b) more e up).1
 rI := fun minus a b more e up => (rndG minus (wn a b) more e up).2
 re := fun e => decide (-5000 ≤ e ∧ e ≤ 5000)
 ah := fun a b c d => (a + c + (b + d + 0) / 18446744073709551616) % 18446744073709551616
 al := fun _ b _ d => (b + d + 0) % 18446744073709551616
 sh := fun a b c d => (a - c - (if b < d + 0 then 1 else 0)) % 18446744073709551616
 sl := fun _ b _ d => (b - d - 0) % 18446744073709551616
def dK (K:Kd) (a b:F):Int := IntKind.i64.wrap (K.ex a - K.ex b)
def eK (K:Kd) (a:F):Int := IntKind.i64.wrap (K.ex a - 64)
def sH (K:Kd) (a b:F):Int := K.dh (K.mn b) 0 (dK K a b)
def sL (K:Kd) (a b:F):Int := K.dl (K.mn b) 0 (dK K a b)
def mK (K:Kd) (a b:F) (d:Bool):Obs := [(K.u (K.mn b),true),(K.u 0,true),(K.dn (dK K a b),true),(K.dm (K.mn b) 0 (dK K a b),d)]
def oH (K:Kd) (a b:F):Int := K.sh (K.mn a) 0 (sH K a b) (sL K a b)
def oL (K:Kd) (a b:F):Int := K.sl (K.mn a) 0 (sH K a b) (sL K a b)
def hK (K:Kd) (same more:Bool) (a b:F):Int := if same then K.ah (K.mn a) 0 (sH K a b) (sL K a b) else if more then K.sh (oH K a b) (oL K a b) 0 1 else oH K a b
def lK (K:Kd) (same more:Bool) (a b:F):Int := if same then K.al (K.mn a) 0 (sH K a b) (sL K a b) else if more then K.sl (oH K a b) (oL K a b) 0 1 else oL K a b
def w1K (K:Kd) (a b:F):Obs := [(K.u (K.mn a),true),(K.u 0,true),(K.u (sH K a b),true),(K.u (sL K a b),true)]
def w2K (K:Kd) (a b:F):Obs := [(K.u (oH K a b),true),(K.u (oL K a b),true),(K.u 0,true),(K.u 1,true)]
def rdK (K:Kd) (h l e:Int):Obs := [(K.u h,true),(K.u l,true),(K.re e,true)]
def wAllK (K:Kd) (same more:Bool) (a b:F):Obs := if same then w1K K a b else if more then w2K K a b ++ w1K K a b else w1K K a b
def obK (K:Kd) (same more:Bool) (a b:F):Obs := rdK K (hK K same more a b) (lK K same more a b) (eK K a) ++ wAllK K same more a b ++ mK K a b more
theorem obK_R (s m:Bool) (a b:F):obK KR s m a b = obA s m a b := rfl
end Bu
namespace Bu
open Ieee
def nlz (m:Nat):Nat := 64 - blen m
theorem nlz_le (m:Nat):nlz m ≤ 64 := by unfold nlz; omega
theorem norm_bounds {m:Nat} (h0:m ≠ 0) (h:m < 18446744073709551616):9223372036854775808 ≤ m * 2 ^ nlz m ∧ m * 2 ^ nlz m < 18446744073709551616 := by
 have hl:blen m = m.log2 + 1 := by unfold blen; rw [if_neg h0]
 have h1 := Nat.log2_self_le h0
 have h2:m < 2 ^ (m.log2 + 1) := Nat.lt_log2_self
 have h3:m.log2 < 64 := (Nat.log2_lt h0).2 (by have:(2:Nat) ^ 64 = 18446744073709551616 := rfl; omega)
 have e63:(9223372036854775808:Nat) = 2 ^ 63 := by decide
 have e64:(18446744073709551616:Nat) = 2 ^ 64 := by decide
 unfold nlz
 rw [hl,e63,e64]
 have p:(2:Nat) ^ m.log2 * 2 ^ (64 - (m.log2 + 1)) = 2 ^ 63 := by rw [← Nat.pow_add]; congr 1; omega
 have q:(2:Nat) ^ (m.log2 + 1) * 2 ^ (64 - (m.log2 + 1)) = 2 ^ 64 := by rw [← Nat.pow_add]; congr 1; omega
 constructor
 ·rw [← p]; exact Nat.mul_le_mul_right _ h1
 ·rw [← q]; exact Nat.mul_lt_mul_of_pos_right h2 (pow_pos' _)
theorem mn_pos {x:F} (h:x.k ≠ 0):mn x ≠ 0 := by
 intro c
 have := man_zero _ c
 omega
theorem mn_64 (x:F):mn x < 18446744073709551616 := by have := mn_lt x; omega
def divM (x:F):Nat := mn x * 2 ^ nlz (mn x)
def divE (a b:F):Int := (ex a:Int) - 1074 - nlz (mn a) - ((ex b:Int) - 1074 - nlz (mn b)) - 63
theorem rndG_div (up:Bool) (a b:F) (ha:a.k ≠ 0) (hb:b.k ≠ 0) :
  rndG (sg a != sg b) (divM a * 9223372036854775808 / divM b) (decide (0 < divM a * 9223372036854775808 % divM b)) (divE a b) up = dDiv up a b := by
 have nb := norm_bounds (mn_pos hb) (mn_64 b)
 have na := norm_bounds (mn_pos ha) (mn_64 a)
 obtain ⟨X,hX⟩:∃ X,divM a * 9223372036854775808 / divM b = X := ⟨_,rfl⟩
 obtain ⟨R,hR⟩:∃ R,divM a * 9223372036854775808 % divM b = R := ⟨_,rfl⟩
 have hdm:divM b * X + R = divM a * 9223372036854775808 := by rw [← hX,← hR]; exact Nat.div_add_mod _ _
 have hbp:0 < divM b := by unfold divM; omega
 have hRl:R < divM b := by rw [← hR]; exact Nat.mod_lt _ hbp
 have hXl:4611686018427387904 ≤ X := by
  rw [← hX,Nat.le_div_iff_mul_le hbp]
  unfold divM
  generalize mn a * 2 ^ nlz (mn a) = M at *
  generalize mn b * 2 ^ nlz (mn b) = N at *
  omega
 rw [hX,hR]
 unfold dDiv
 have hzb:b.z.natAbs = mn b * 2 ^ ex b := by rw [z_parts b]; split <;> omega
 have hz:(if b.k < 0 then -(a.z * S) else a.z * S) = if (sg a != sg b) = true then -((mn a * 2 ^ ex a * S:Nat):Int) else ((mn a * 2 ^ ex a * S:Nat):Int) := by
  rw [z_parts a,Int.natCast_mul _ S]
  generalize ((mn a * 2 ^ ex a:Nat):Int) = A
  by_cases c:b.k < 0
  ·have hs:sg b = true := by unfold sg; exact decide_eq_true c
   rw [if_pos c,hs]
   cases sg a <;> simp [Int.neg_mul]
  ·have hs:sg b = false := by unfold sg; exact decide_eq_false c
   rw [if_neg c,hs]
   cases sg a <;> simp [Int.neg_mul]
 rw [hz,hzb]
 obtain ⟨s,hs,hS⟩ := S_pow
 rw [hS]
 obtain ⟨p,hp⟩:∃ p,(divE a b + 1074).toNat = p := ⟨_,rfl⟩
 obtain ⟨q,hq⟩:∃ q,(-(divE a b + 1074)).toNat = q := ⟨_,rfl⟩
 have hpq:p + ex b + nlz (mn a) + 63 = ex a + s + q + nlz (mn b) := by unfold divE at hp hq; omega
 obtain ⟨T,hT⟩:∃ T,ex a + s + q + nlz (mn b) = T := ⟨_,rfl⟩
 obtain ⟨U,hU⟩:∃ U,nlz (mn a) + nlz (mn b) + 63 = U := ⟨_,rfl⟩
 have key1:∀ x:Nat,x * 2 ^ p * (mn b * 2 ^ ex b) * 2 ^ U = (divM b * x) * 2 ^ T := by
  intro x
  have e:U + p + ex b = nlz (mn b) + T := by omega
  have:(2:Nat) ^ U * 2 ^ p * 2 ^ ex b = 2 ^ nlz (mn b) * 2 ^ T := by rw [← Nat.pow_add,← Nat.pow_add,e,Nat.pow_add]
  unfold divM
  calc x * 2 ^ p * (mn b * 2 ^ ex b) * 2 ^ U = x * mn b * (2 ^ U * 2 ^ p * 2 ^ ex b) := by ac_rfl
   _ = x * mn b * (2 ^ nlz (mn b) * 2 ^ T) := by rw [this]
   _ = mn b * 2 ^ nlz (mn b) * x * 2 ^ T := by ac_rfl
 have key2:mn a * 2 ^ ex a * 2 ^ s * 2 ^ q * 2 ^ U = (divM a * 9223372036854775808) * 2 ^ T := by
  have e:ex a + s + q + U = nlz (mn a) + 63 + T := by omega
  have e63:(9223372036854775808:Nat) = 2 ^ 63 := by decide
  unfold divM
  rw [e63]
  have:(2:Nat) ^ ex a * 2 ^ s * 2 ^ q * 2 ^ U = 2 ^ nlz (mn a) * 2 ^ 63 * 2 ^ T := by rw [← Nat.pow_add,← Nat.pow_add,← Nat.pow_add,e,Nat.pow_add,Nat.pow_add]
  calc mn a * 2 ^ ex a * 2 ^ s * 2 ^ q * 2 ^ U = mn a * (2 ^ ex a * 2 ^ s * 2 ^ q * 2 ^ U) := by ac_rfl
   _ = mn a * (2 ^ nlz (mn a) * 2 ^ 63 * 2 ^ T) := by rw [this]
   _ = mn a * 2 ^ nlz (mn a) * 2 ^ 63 * 2 ^ T := by ac_rfl
 have hle:∀ x:Nat,x * 2 ^ p * (mn b * 2 ^ ex b) ≤ mn a * 2 ^ ex a * 2 ^ s * 2 ^ q ↔ divM b * x ≤ divM a * 9223372036854775808 := by
  intro x
  rw [← Nat.mul_le_mul_right_iff (pow_pos' U),key1,key2,Nat.mul_le_mul_right_iff (pow_pos' T)]
 have hge:∀ x:Nat,mn a * 2 ^ ex a * 2 ^ s * 2 ^ q ≤ x * 2 ^ p * (mn b * 2 ^ ex b) ↔ divM a * 9223372036854775808 ≤ divM b * x := by
  intro x
  rw [← Nat.mul_le_mul_right_iff (pow_pos' U),key1,key2,Nat.mul_le_mul_right_iff (pow_pos' T)]
 clear key1 key2
 have hmn:mn b ≠ 0 := mn_pos hb
 refine rndG_eq_rndR (Nat.mul_pos (by omega) (pow_pos' _)) ?_ ?_ ?_ ?_
 ·rw [hp,hq]; exact (hle X).2 (by omega)
 ·rw [hp,hq]
  have:¬ ((X + 1) * 2 ^ p * (mn b * 2 ^ ex b) ≤ mn a * 2 ^ ex a * 2 ^ s * 2 ^ q) := by
   rw [hle,Nat.mul_add]; omega
  omega
 ·rw [hp,hq]
  have h1 := hle X
  have h2 := hge X
  simp only [decide_eq_true_eq]
  constructor
  ·intro h0 he
   have := h2.1 (Nat.le_of_eq he)
   omega
  ·intro h0
   rcases Nat.eq_zero_or_pos R with c | c
   ·exfalso
    apply h0
    exact Nat.le_antisymm (h2.2 (by omega)) (h1.2 (by omega))
   ·exact c
 ·intro _
  have : (2:Nat) ^ 62 ≤ X := by have : (2:Nat) ^ 62 = 4611686018427387904 := by decide
                                omega
  have := blen_ge this
  omega
theorem divM_eq (M:Nat):M / 2 * 18446744073709551616 + M * 9223372036854775808 % 18446744073709551616 = M * 9223372036854775808 := by omega
theorem blen_mn (x:F):blen (mn x) ≤ 53 := by
 refine blen_le ?_
 have h := mn_lt x
 have e:(2:Nat) ^ 53 = 9007199254740992 := by decide
 omega
theorem rndR_zero (up:Bool) {B:Nat}:rndR up 0 B = (F.zero,0) := by
 have e0:flI 0 B = 0 := by unfold flI; rw [if_pos (Int.le_refl 0),Int.toNat_zero,flQ_zero]; rfl
 have e1:ceI 0 B = 0 := by unfold ceI; rw [Int.neg_zero,e0,Int.neg_zero]
 unfold rndR
 rw [e0,e1]
 cases up <;> decide +kernel
theorem dDiv_zero (up:Bool) (a b:F) (h:a.k = 0):dDiv up a b = (F.zero,0) := by
 have hz:a.z = 0 := (z_zero a).2 h
 unfold dDiv
 rw [hz,Int.zero_mul,Int.neg_zero,ite_self,rndR_zero]
structure IsRoot (n x:Nat):Prop where
 le:x * x ≤ n
 lt:n < (x + 1) * (x + 1)
theorem IsRoot.mono {n x y:Nat} (h:IsRoot n x):y ≤ x ↔ y * y ≤ n := by
 constructor
 ·intro hy; exact Nat.le_trans (Nat.mul_le_mul hy hy) h.le
 ·intro hy
  rcases Nat.lt_or_ge x y with c | c
  ·exfalso
   have := Nat.mul_le_mul (show x + 1 ≤ y from c) (show x + 1 ≤ y from c)
   have := h.lt
   omega
  ·exact c
structure RootAt (n k x:Nat):Prop where
 dvd:∃ a,x = a * 2 ^ k ∧ x + 2 ^ k ≤ 18446744073709551616
 le:x * x ≤ n
 lt:n < (x + 2 ^ k) * (x + 2 ^ k)
theorem RootAt.start {n:Nat} (h:n < W128):RootAt n 64 0 := by
 refine ⟨⟨0,by simp,by decide⟩,by simp,?_⟩
 have e:(0 + 2 ^ 64) * (0 + 2 ^ 64) = W128 := by decide
 rw [e]; exact h
theorem RootAt.yes {n k x:Nat} (h:RootAt n (k + 1) x) (hx:(x + 2 ^ k) * (x + 2 ^ k) ≤ n):RootAt n k (x + 2 ^ k) := by
 obtain ⟨⟨a,h1,h2⟩,h3,h4⟩ := h
 have e:(2:Nat) ^ (k + 1) = 2 ^ k + 2 ^ k := by rw [Nat.pow_succ]; omega
 rw [e] at h1 h2 h4
 refine ⟨⟨2 * a + 1,?_,by omega⟩,hx,?_⟩
 ·rw [h1,← Nat.two_mul,Nat.add_mul,Nat.one_mul]; ac_rfl
 ·rw [Nat.add_assoc]; exact h4
theorem RootAt.no {n k x:Nat} (h:RootAt n (k + 1) x) (hx:¬ (x + 2 ^ k) * (x + 2 ^ k) ≤ n):RootAt n k x := by
 obtain ⟨⟨a,h1,h2⟩,h3,h4⟩ := h
 have e:(2:Nat) ^ (k + 1) = 2 ^ k + 2 ^ k := by rw [Nat.pow_succ]; omega
 rw [e] at h1 h2 h4
 have hp := pow_pos' k
 refine ⟨⟨2 * a,?_,?_⟩,h3,Nat.not_le.1 hx⟩
 ·rw [h1,← Nat.two_mul]; ac_rfl
 ·omega
theorem RootAt.done {n x:Nat} (h:RootAt n 0 x):IsRoot n x := ⟨h.le,by have := h.lt; simpa using this⟩
def rootB (n:Nat):Nat → Nat → Nat
 | 0,x => x
 | k + 1,x => if (x + 2 ^ k) * (x + 2 ^ k) ≤ n then rootB n k (x + 2 ^ k) else rootB n k x
theorem rootB_ok {n:Nat}:∀ (k x:Nat),RootAt n k x → IsRoot n (rootB n k x)
 | 0,_,h => h.done
 | k + 1, x, h => by
   unfold rootB
   split
   ·rename_i c; exact rootB_ok k _ (h.yes c)
   ·rename_i c; exact rootB_ok k _ (h.no c)
def root64 (n:Nat):Nat := rootB n 64 0
theorem root64_ok {n:Nat} (h:n < W128):IsRoot n (root64 n) := rootB_ok 64 0 (RootAt.start h)
def sqO (a:F):Bool := decide (((ex a:Int) - 1074 - nlz (mn a) - 64) % 2 ≠ 0)
def sqN (a:F):Nat := if sqO a then divM a * 9223372036854775808 else divM a * 18446744073709551616
def sqE (a:F):Int := if sqO a then (ex a:Int) - 1074 - nlz (mn a) - 63 else (ex a:Int) - 1074 - nlz (mn a) - 64
theorem sqE_even (a:F):sqE a % 2 = 0 := by
 unfold sqE sqO
 split <;> rename_i c <;> simp at c <;> omega
def dSqrt (up:Bool) (a:F):F × Int := rndG false (root64 (sqN a)) (decide (root64 (sqN a) * root64 (sqN a) ≠ sqN a)) (sqE a / 2) up
end Bu
namespace Bu
open Rx
theorem S_ne:(S:Rat) ≠ 0 := by
 intro h
 have := S_pos
 have h2:((S:Nat):Rat) = ((0:Nat):Rat) := h
 have h3 := Rat.natCast_inj.1 h2
 omega
theorem S_gt:(0:Rat) < (S:Rat) := by
 have := Rat.natCast_lt_natCast.2 S_pos
 simpa using this
def F.q (x:F):Rat := (x.z:Rat) / (S:Rat)
theorem F.q_mul (x:F):x.q * (S:Rat) = (x.z:Rat) := Rat.div_mul_cancel S_ne
theorem q_le_z {a b:F}:a.q ≤ b.q ↔ a.z ≤ b.z := by
 constructor
 ·intro h
  have h1 := Rat.mul_le_mul_of_nonneg_right h (Rat.le_of_lt S_gt)
  rw [F.q_mul,F.q_mul] at h1
  exact Rat.intCast_le_intCast.1 h1
 ·intro h
  have h1 := Rat.intCast_le_intCast.2 h
  rw [← F.q_mul,← F.q_mul] at h1
  exact Rat.le_of_mul_le_mul_right h1 S_gt
theorem q_le {a b:F}:a.q ≤ b.q ↔ a.k ≤ b.k := by rw [q_le_z,F.z_le]
theorem q_lt {a b:F}:a.q < b.q ↔ a.k < b.k := by
 rw [← Rat.not_le,q_le]; omega
theorem q_inj {a b:F} (h:a.q = b.q):a = b := by
 have h1 := q_le.1 (show a.q ≤ b.q by rw [h]; exact Rat.le_refl)
 have h2 := q_le.1 (show b.q ≤ a.q by rw [h]; exact Rat.le_refl)
 exact F.ext' (by omega)
theorem q_zero:F.zero.q = 0 := by
 unfold F.q; rw [F.zero_z,Rat.div_def]; simp
theorem q_neg (x:F):x.neg.q = -x.q := by
 unfold F.q; rw [F.neg_z,Rat.div_def,Rat.div_def]; simp [Rat.neg_mul]
theorem z_le_iff {x:F} {A:Int} {B:Nat} (hB:0 < B):x.z * (B:Int) ≤ A ↔ x.q ≤ (A:Rat) / ((S:Rat) * (B:Rat)) := by
 have hb:(0:Rat) < (B:Rat) := by have := Rat.natCast_lt_natCast.2 hB; simpa using this
 have hsb:(0:Rat) < (S:Rat) * (B:Rat) := Rat.mul_pos S_gt hb
 have e:x.q * ((S:Rat) * (B:Rat)) = ((x.z * (B:Int):Int):Rat) := by
  rw [← Rat.mul_assoc,F.q_mul,Rat.intCast_mul]; rfl
 have e2:(A:Rat) / ((S:Rat) * (B:Rat)) * ((S:Rat) * (B:Rat)) = (A:Rat) := Rat.div_mul_cancel (by grind)
 constructor
 ·intro h
  have h1 := Rat.intCast_le_intCast.2 h
  rw [← e,← e2] at h1
  exact Rat.le_of_mul_le_mul_right h1 hsb
 ·intro h
  have h1 := Rat.mul_le_mul_of_nonneg_right h (Rat.le_of_lt hsb)
  rw [e,e2] at h1
  exact Rat.intCast_le_intCast.1 h1
structure Dn (r:F) (v:Rat):Prop where
 le:r.q ≤ v
 top:∀ c:F,c.q ≤ v → c.q ≤ r.q
structure Up (r:F) (v:Rat):Prop where
 ge:v ≤ r.q
 bot:∀ c:F,v ≤ c.q → r.q ≤ c.q
theorem rat_le_iff {x:F} {A:Int} {B:Nat} (hB:0 < B):A ≤ x.z * (B:Int) ↔ (A:Rat) / ((S:Rat) * (B:Rat)) ≤ x.q := by
 have h := @z_le_iff x.neg (-A) B hB
 rw [F.neg_z,q_neg] at h
 have e:((-A:Int):Rat) / ((S:Rat) * (B:Rat)) = -((A:Rat) / ((S:Rat) * (B:Rat))) := by rw [Rat.div_def,Rat.div_def,Rat.intCast_neg,Rat.neg_mul]
 rw [e] at h
 constructor
 ·intro g
  have := h.1 (by rw [Int.neg_mul]; omega)
  grind
 ·intro g
  have := h.2 (by grind)
  rw [Int.neg_mul] at this; omega
theorem rndR_dn {A:Int} {B:Nat} {v:Rat} (hB:0 < B) (hv:(A:Rat) / ((S:Rat) * (B:Rat)) = v) (c:F) (hc:c.q ≤ v):∃ r,rndR false A B = (r,0) ∧ Dn r v := by
 subst hv
 have hk:∀ x:F,x.k ≤ flI A B ↔ x.q ≤ (A:Rat) / ((S:Rat) * (B:Rat)) := fun x => by rw [le_flI hB,← z_le_iff hB]; rfl
 have h1 := (hk c).2 hc
 have h2 := c.hk
 have hT:(1:Int) ≤ (T:Int) := by rw [T_num]; omega
 refine ⟨F.of (min (flI A B) (T - 1)),?_,?_,?_⟩
 ·show outDn _ = _
  unfold outDn
  rw [if_neg (by omega)]
 ·rw [← hk,F.of_k (by omega)]; omega
 ·intro d hd
  have h3 := (hk d).2 hd
  have h4 := d.hk
  rw [q_le,F.of_k (by omega)]; omega
theorem rndR_up {A:Int} {B:Nat} {v:Rat} (hB:0 < B) (hv:(A:Rat) / ((S:Rat) * (B:Rat)) = v) (c:F) (hc:v ≤ c.q):∃ r,rndR true A B = (r,0) ∧ Up r v := by
 subst hv
 have hk:∀ x:F,ceI A B ≤ x.k ↔ (A:Rat) / ((S:Rat) * (B:Rat)) ≤ x.q := fun x => by rw [ceI_le hB,← rat_le_iff hB]; rfl
 have h1 := (hk c).2 hc
 have h2 := c.hk
 have hT:(1:Int) ≤ (T:Int) := by rw [T_num]; omega
 refine ⟨F.of (max (ceI A B) (1 - T)),?_,?_,?_⟩
 ·show outUp _ = _
  unfold outUp
  rw [if_neg (by omega)]
 ·rw [← hk,F.of_k (by omega)]; omega
 ·intro d hd
  have h3 := (hk d).2 hd
  have h4 := d.hk
  rw [q_le,F.of_k (by omega)]; omega
theorem add_v (a b:F):((a.z + b.z:Int):Rat) / ((S:Rat) * ((1:Nat):Rat)) = a.q + b.q := by
 unfold F.q
 rw [Rat.intCast_add,Rat.div_def,Rat.div_def,Rat.div_def,show ((1:Nat):Rat) = 1 from rfl,Rat.mul_one,Rat.add_mul]
theorem sub_v (a b:F):((a.z - b.z:Int):Rat) / ((S:Rat) * ((1:Nat):Rat)) = a.q - b.q := by
 unfold F.q
 rw [Rat.intCast_sub,Rat.div_def,Rat.div_def,Rat.div_def,show ((1:Nat):Rat) = 1 from rfl,Rat.mul_one]
 grind
theorem mul_v (a b:F):((a.z * b.z:Int):Rat) / ((S:Rat) * (S:Rat)) = a.q * b.q := by
 unfold F.q
 rw [Rat.intCast_mul]
 have := S_ne
 grind
theorem div_v (a b:F) (hb:b.k ≠ 0):((if b.k < 0 then -(a.z * (S:Int)) else a.z * (S:Int):Int):Rat) / ((S:Rat) * ((b.z.natAbs:Nat):Rat)) = a.q / b.q := by
 have hz:b.z ≠ 0 := fun h => hb ((z_zero b).1 h)
 have hzr:(b.z:Rat) ≠ 0 := fun h => hz (Rat.intCast_inj.1 h)
 have hS := S_ne
 have hS2:((S:Int):Rat) = (S:Rat) := Rat.intCast_natCast S
 unfold F.q
 split
 ·rename_i hk
  have h1 := (z_sign b).2 hk
  have e:((b.z.natAbs:Nat):Rat) = -(b.z:Rat) := by
   rw [← Rat.intCast_natCast,show ((b.z.natAbs:Nat):Int) = -b.z from by omega,Rat.intCast_neg]
  rw [e,Rat.intCast_neg,Rat.intCast_mul,hS2]
  grind
 ·rename_i hk
  have h1:¬ b.z < 0 := fun h => hk ((z_sign b).1 h)
  have e:((b.z.natAbs:Nat):Rat) = (b.z:Rat) := by
   rw [← Rat.intCast_natCast,show ((b.z.natAbs:Nat):Int) = b.z from by omega]
  rw [e,Rat.intCast_mul,hS2]
  grind
theorem dAdd_dn {a b:F} (c:F) (hc:c.q ≤ a.q + b.q):∃ r,dAdd false a b = (r,0) ∧ Dn r (a.q + b.q) := rndR_dn (by decide) (add_v a b) c hc
theorem dAdd_up {a b:F} (c:F) (hc:a.q + b.q ≤ c.q):∃ r,dAdd true a b = (r,0) ∧ Up r (a.q + b.q) := rndR_up (by decide) (add_v a b) c hc
theorem dMul_dn {a b:F} (c:F) (hc:c.q ≤ a.q * b.q):∃ r,dMul false a b = (r,0) ∧ Dn r (a.q * b.q) := rndR_dn S_pos (mul_v a b) c hc
theorem dMul_up {a b:F} (c:F) (hc:a.q * b.q ≤ c.q):∃ r,dMul true a b = (r,0) ∧ Up r (a.q * b.q) := rndR_up S_pos (mul_v a b) c hc
theorem grid (m:Int) (hm:m.natAbs ≤ 9007199254740992) (s:Nat) (hs:s ≤ 1074) (hs2:54 ≤ s + 1023):∃ c:F,c.q * ((2 ^ s:Nat):Rat) = (m:Rat) := by
 have key:∀ n:Nat,n ≤ 9007199254740992 → ∃ c:F,c.q * ((2 ^ s:Nat):Rat) = (n:Rat) := by
  intro n hn
  have h1:(F.dy n (-(s:Int))).z = ((n * 2 ^ (-(s:Int) + 1074).toNat:Nat):Int) := dy_z (by have:P = 4503599627370496 := rfl; omega) (by omega) (by have := blen_2P (m := n) (by have:P = 4503599627370496 := rfl; omega); omega)
  refine ⟨F.dy n (-(s:Int)),?_⟩
  have hS:S = 2 ^ (-(s:Int) + 1074).toNat * 2 ^ s := by rw [S_eq,← Nat.pow_add]; congr 1; omega
  have h2 := F.q_mul (F.dy n (-(s:Int)))
  rw [h1,hS,Rat.intCast_natCast,Rat.natCast_mul,Rat.natCast_mul] at h2
  have hp:((2 ^ (-(s:Int) + 1074).toNat:Nat):Rat) ≠ 0 := by
   intro h
   have h3:((2 ^ (-(s:Int) + 1074).toNat:Nat):Rat) = ((0:Nat):Rat) := h
   have := Rat.natCast_inj.1 h3
   have := Nat.two_pow_pos (-(s:Int) + 1074).toNat
   omega
  generalize ((2 ^ (-(s:Int) + 1074).toNat:Nat):Rat) = p at *
  generalize ((2 ^ s:Nat):Rat) = w at *
  generalize (F.dy n (-(s:Int))).q = x at *
  grind
 rcases Int.le_total 0 m with h | h
 ·obtain ⟨c,hc⟩ := key m.natAbs hm
  exact ⟨c,by rw [hc,← Rat.intCast_natCast,show ((m.natAbs:Nat):Int) = m from by omega]⟩
 ·obtain ⟨c,hc⟩ := key m.natAbs hm
  exact ⟨c.neg,by rw [q_neg,Rat.neg_mul,hc,← Rat.intCast_natCast,show ((m.natAbs:Nat):Int) = -m from by omega,Rat.intCast_neg]; grind⟩
theorem pow_q (s:Nat):(0:Rat) < ((2 ^ s:Nat):Rat) := by
 have := Rat.natCast_lt_natCast.2 (Nat.two_pow_pos s)
 simpa using this
theorem floor_bd {v W:Rat} (h0:-9007199254740992 ≤ v * W) (h1:v * W ≤ 9007199254740992):(v * W).floor.natAbs ≤ 9007199254740992 := by
 have a1:(-9007199254740992:Int) ≤ (v * W).floor := Rat.le_floor_iff.2 (by simpa using h0)
 have a2 := Rat.floor_le (v * W)
 have a3:(((v * W).floor:Int):Rat) ≤ ((9007199254740992:Int):Rat) := Rat.le_trans a2 (by simpa using h1)
 have a4 := Rat.intCast_le_intCast.1 a3
 omega
theorem Dn.near {r:F} {v:Rat} (h:Dn r v) (s:Nat) (hs:s ≤ 1074) (h0:-9007199254740992 ≤ v * ((2 ^ s:Nat):Rat)) (h1:v * ((2 ^ s:Nat):Rat) ≤ 9007199254740992):(v - r.q) * ((2 ^ s:Nat):Rat) ≤ 1 := by
 obtain ⟨c,hc⟩ := grid (v * ((2 ^ s:Nat):Rat)).floor (floor_bd h0 h1) s hs (by omega)
 have a1 := Rat.floor_le (v * ((2 ^ s:Nat):Rat))
 have a2 := Rat.lt_floor_add_one (v * ((2 ^ s:Nat):Rat))
 rw [Rat.intCast_add] at a2
 have hw := pow_q s
 have h2:c.q ≤ v := Rat.le_of_mul_le_mul_right (by rw [hc]; exact a1) hw
 have h3 := Rat.mul_le_mul_of_nonneg_right (h.top c h2) (Rat.le_of_lt hw)
 rw [hc] at h3
 generalize ((2 ^ s:Nat):Rat) = W at *
 have:((1:Int):Rat) = 1 := rfl
 grind
theorem Dn.neg {r:F} {v:Rat} (h:Dn r v):Up r.neg (-v) := by
 refine ⟨by rw [q_neg]; have := h.le; grind,fun c hc => ?_⟩
 have := h.top c.neg (by rw [q_neg]; grind)
 rw [q_neg] at this ⊢
 grind
theorem Up.neg {r:F} {v:Rat} (h:Up r v):Dn r.neg (-v) := by
 refine ⟨by rw [q_neg]; have := h.ge; grind,fun c hc => ?_⟩
 have := h.bot c.neg (by rw [q_neg]; grind)
 rw [q_neg] at this ⊢
 grind
theorem Up.near {r:F} {v:Rat} (h:Up r v) (s:Nat) (hs:s ≤ 1074) (h0:-9007199254740992 ≤ v * ((2 ^ s:Nat):Rat)) (h1:v * ((2 ^ s:Nat):Rat) ≤ 9007199254740992):(r.q - v) * ((2 ^ s:Nat):Rat) ≤ 1 := by
 have := h.neg.near s hs (by generalize ((2 ^ s:Nat):Rat) = W at *; grind) (by generalize ((2 ^ s:Nat):Rat) = W at *; grind)
 rw [q_neg] at this
 generalize ((2 ^ s:Nat):Rat) = W at *
 grind
structure Mem (a:I) (v:Rat):Prop where
 lo:a.lo.q ≤ v
 hi:v ≤ a.hi.q
theorem Mem.rt {a:I} {v:Rat} (h:Mem a v):rt a = true := decide_eq_true (q_le.1 (Rat.le_trans h.lo h.hi))
theorem rt_q {a:I} (h:a.lo.q ≤ a.hi.q):rt a = true := decide_eq_true (q_le.1 h)
structure Sm (a:I):Prop where
 lo:-67108864 ≤ a.lo.q
 rt:a.lo.q ≤ a.hi.q
 hi:a.hi.q ≤ 67108864
theorem big_ex:∃ c:F,c.q = 9007199254740992 := by
 obtain ⟨c,hc⟩ := grid 9007199254740992 (by omega) 0 (by omega) (by omega)
 exact ⟨c,by simpa using hc⟩
theorem low_ex:∃ c:F,c.q = -9007199254740992 := by
 obtain ⟨c,hc⟩ := big_ex
 exact ⟨c.neg,by rw [q_neg,hc]⟩
theorem prod_bd {x y:Rat} (h1:-67108864 ≤ x) (h2:x ≤ 67108864) (h3:-67108864 ≤ y) (h4:y ≤ 67108864):-9007199254740992 ≤ x * y ∧ x * y ≤ 9007199254740992 := by
 have a := Rat.mul_nonneg (show 0 ≤ x + 67108864 by grind) (show 0 ≤ y + 67108864 by grind)
 have b := Rat.mul_nonneg (show 0 ≤ 67108864 - x by grind) (show 0 ≤ 67108864 - y by grind)
 have c := Rat.mul_nonneg (show 0 ≤ 67108864 - x by grind) (show 0 ≤ y + 67108864 by grind)
 have d := Rat.mul_nonneg (show 0 ≤ x + 67108864 by grind) (show 0 ≤ 67108864 - y by grind)
 constructor <;> grind
theorem ask_ok {r:I × Int} {g:Bool} (hg:g = true) (hr:r.2 = 0):askI 0 g r = (r.1,0) := by
 unfold askI
 rw [hg,hr]; rfl
theorem ends_ok {l h:F}:endsI (l,0) (h,0) = (⟨l,h⟩,0) := rfl
theorem cAdd_ok {a b:I} (ha:Sm a) (hb:Sm b):∃ r,cAdd dAdd 0 a b = (r,0) ∧ Dn r.lo (a.lo.q + b.lo.q) ∧ Up r.hi (a.hi.q + b.hi.q) := by
 obtain ⟨c,hc⟩ := low_ex
 obtain ⟨d,hd⟩ := big_ex
 obtain ⟨l,e1,h1⟩ := @dAdd_dn a.lo b.lo c (by have := ha.lo; have := hb.lo; grind)
 obtain ⟨h,e2,h2⟩ := @dAdd_up a.hi b.hi d (by have := ha.hi; have := hb.hi; grind)
 refine ⟨⟨l,h⟩,?_,h1,h2⟩
 unfold cAdd
 rw [e1,e2,ends_ok,ask_ok (by rw [rt_q ha.rt,rt_q hb.rt]; rfl) rfl]
structure AllR (r:I) (p q s t:Rat):Prop where
 lo:r.lo.q ≤ p ∧ r.lo.q ≤ q ∧ r.lo.q ≤ s ∧ r.lo.q ≤ t
 hi:p ≤ r.hi.q ∧ q ≤ r.hi.q ∧ s ≤ r.hi.q ∧ t ≤ r.hi.q
 loE:Dn r.lo p ∨ Dn r.lo q ∨ Dn r.lo s ∨ Dn r.lo t
 hiE:Up r.hi p ∨ Up r.hi q ∨ Up r.hi s ∨ Up r.hi t
theorem mnF_q (a b:F):(mnF a b).q ≤ a.q ∧ (mnF a b).q ≤ b.q := by
 constructor <;> rw [q_le,mnF_k'] <;> omega
 where mnF_k':(mnF a b).k = min a.k b.k := by unfold mnF; split <;> omega
theorem mxF_q (a b:F):a.q ≤ (mxF a b).q ∧ b.q ≤ (mxF a b).q := by
 constructor <;> rw [q_le,mxF_k'] <;> omega
 where mxF_k':(mxF a b).k = max a.k b.k := by unfold mxF; split <;> omega
theorem mnF_or (a b:F):mnF a b = a ∨ mnF a b = b := by unfold mnF; split <;> simp
theorem mxF_or (a b:F):mxF a b = a ∨ mxF a b = b := by unfold mxF; split <;> simp
theorem allI_ok {f:Bool → F → F → F × Int} {a b:I} {p q s t:Rat}
  (h1:(∃ r,f false a.lo b.lo = (r,0) ∧ Dn r p) ∧ ∃ r,f true a.lo b.lo = (r,0) ∧ Up r p)
  (h2:(∃ r,f false a.lo b.hi = (r,0) ∧ Dn r q) ∧ ∃ r,f true a.lo b.hi = (r,0) ∧ Up r q)
  (h3:(∃ r,f false a.hi b.lo = (r,0) ∧ Dn r s) ∧ ∃ r,f true a.hi b.lo = (r,0) ∧ Up r s)
  (h4:(∃ r,f false a.hi b.hi = (r,0) ∧ Dn r t) ∧ ∃ r,f true a.hi b.hi = (r,0) ∧ Up r t):∃ r,allI f a b = (r,0) ∧ AllR r p q s t := by
 obtain ⟨⟨l1,e1,d1⟩,⟨u1,g1,p1⟩⟩ := h1
 obtain ⟨⟨l2,e2,d2⟩,⟨u2,g2,p2⟩⟩ := h2
 obtain ⟨⟨l3,e3,d3⟩,⟨u3,g3,p3⟩⟩ := h3
 obtain ⟨⟨l4,e4,d4⟩,⟨u4,g4,p4⟩⟩ := h4
 refine ⟨hullI (hullI (hullI (hullI ⟨l1,u1⟩ ⟨l1,u1⟩) ⟨l2,u2⟩) ⟨l3,u3⟩) ⟨l4,u4⟩,?_,?_⟩
 ·unfold allI oneI
  rw [e1,g1,e2,g2,e3,g3,e4,g4]
  rfl
 ·have s1:mnF l1 l1 = l1 := by rcases mnF_or l1 l1 with h | h <;> exact h
  have s2:mxF u1 u1 = u1 := by rcases mxF_or u1 u1 with h | h <;> exact h
  simp only [hullI,s1,s2]
  have a1 := mnF_q l1 l2
  have a2 := mnF_q (mnF l1 l2) l3
  have a3 := mnF_q (mnF (mnF l1 l2) l3) l4
  have b1 := mxF_q u1 u2
  have b2 := mxF_q (mxF u1 u2) u3
  have b3 := mxF_q (mxF (mxF u1 u2) u3) u4
  have c1 := d1.le; have c2 := d2.le; have c3 := d3.le; have c4 := d4.le
  have k1 := p1.ge; have k2 := p2.ge; have k3 := p3.ge; have k4 := p4.ge
  refine ⟨⟨by grind,by grind,by grind,by grind⟩,⟨by grind,by grind,by grind,by grind⟩,?_,?_⟩
  ·rcases mnF_or (mnF (mnF l1 l2) l3) l4 with h | h
   ·simp only [h]
    rcases mnF_or (mnF l1 l2) l3 with h | h
    ·simp only [h]
     rcases mnF_or l1 l2 with h | h
     ·simp only [h]; exact .inl d1
     ·simp only [h]; exact .inr (.inl d2)
    ·simp only [h]; exact .inr (.inr (.inl d3))
   ·simp only [h]; exact .inr (.inr (.inr d4))
  ·rcases mxF_or (mxF (mxF u1 u2) u3) u4 with h | h
   ·simp only [h]
    rcases mxF_or (mxF u1 u2) u3 with h | h
    ·simp only [h]
     rcases mxF_or u1 u2 with h | h
     ·simp only [h]; exact .inl p1
     ·simp only [h]; exact .inr (.inl p2)
    ·simp only [h]; exact .inr (.inr (.inl p3))
   ·simp only [h]; exact .inr (.inr (.inr p4))
theorem cMul_ok {a b:I} (ha:Sm a) (hb:Sm b):∃ r,cMul dMul 0 a b = (r,0) ∧ AllR r (a.lo.q * b.lo.q) (a.lo.q * b.hi.q) (a.hi.q * b.lo.q) (a.hi.q * b.hi.q) := by
 obtain ⟨c,hc⟩ := low_ex
 obtain ⟨d,hd⟩ := big_ex
 have x1 := ha.lo; have x2 := ha.hi; have x3 := ha.rt
 have y1 := hb.lo; have y2 := hb.hi; have y3 := hb.rt
 have key:∀ x y:F,-67108864 ≤ x.q → x.q ≤ 67108864 → -67108864 ≤ y.q → y.q ≤ 67108864 → (∃ r,dMul false x y = (r,0) ∧ Dn r (x.q * y.q)) ∧ ∃ r,dMul true x y = (r,0) ∧ Up r (x.q * y.q) := by
  intro x y h1 h2 h3 h4
  have := prod_bd h1 h2 h3 h4
  exact ⟨dMul_dn c (by rw [hc]; exact this.1),dMul_up d (by rw [hd]; exact this.2)⟩
 obtain ⟨r,e,h⟩ := allI_ok (f := dMul) (a := a) (b := b) (key a.lo b.lo (by grind) (by grind) (by grind) (by grind)) (key a.lo b.hi (by grind) (by grind) (by grind) (by grind)) (key a.hi b.lo (by grind) (by grind) (by grind) (by grind)) (key a.hi b.hi (by grind) (by grind) (by grind) (by grind))
 refine ⟨r,?_,h⟩
 unfold cMul
 rw [e,ask_ok (by rw [rt_q ha.rt,rt_q hb.rt]; rfl) rfl]
theorem lin_ge {m c b0 b1 y:Rat} (h0:m ≤ c * b0) (h1:m ≤ c * b1) (g0:b0 ≤ y) (g1:y ≤ b1):m ≤ c * y := by
 rcases (Rat.le_total:0 ≤ c ∨ c ≤ 0) with h | h
 ·have := Rat.mul_nonneg h (show 0 ≤ y - b0 by grind); grind
 ·have := Rat.mul_nonneg (show 0 ≤ -c by grind) (show 0 ≤ b1 - y by grind); grind
theorem lin_le {m c b0 b1 y:Rat} (h0:c * b0 ≤ m) (h1:c * b1 ≤ m) (g0:b0 ≤ y) (g1:y ≤ b1):c * y ≤ m := by
 have := @lin_ge (-m) (-c) b0 b1 y (by grind) (by grind) g0 g1
 grind
theorem mul_mem {r a b:I} {x y:Rat} (h:AllR r (a.lo.q * b.lo.q) (a.lo.q * b.hi.q) (a.hi.q * b.lo.q) (a.hi.q * b.hi.q)) (hx:Mem a x) (hy:Mem b y):Mem r (x * y) := by
 obtain ⟨l1,l2,l3,l4⟩ := h.lo
 obtain ⟨u1,u2,u3,u4⟩ := h.hi
 have a1 := lin_ge l1 l2 hy.lo hy.hi
 have a2 := lin_ge l3 l4 hy.lo hy.hi
 have b1 := lin_le u1 u2 hy.lo hy.hi
 have b2 := lin_le u3 u4 hy.lo hy.hi
 have c1 := @lin_ge r.lo.q y a.lo.q a.hi.q x (by grind) (by grind) hx.lo hx.hi
 have c2 := @lin_le r.hi.q y a.lo.q a.hi.q x (by grind) (by grind) hx.lo hx.hi
 exact ⟨by grind,by grind⟩
theorem turn_mem {a:I} {x:Rat} (h:Mem a x):Mem (turnI a) (-x) := by
 refine ⟨?_,?_⟩
 ·show a.hi.neg.q ≤ _; rw [q_neg]; have := h.hi; grind
 ·show _ ≤ a.lo.neg.q; rw [q_neg]; have := h.lo; grind
def ulp:Rat := 1 / 9007199254740992
theorem ulp_pos:0 < ulp := by unfold ulp; grind
theorem Dn.near1 {r:F} {v:Rat} (h:Dn r v) (h0:-1 ≤ v) (h1:v ≤ 1):v - ulp ≤ r.q := by
 have := h.near 53 (by omega) (by have:((2 ^ 53:Nat):Rat) = 9007199254740992 := rfl; grind) (by have:((2 ^ 53:Nat):Rat) = 9007199254740992 := rfl; grind)
 have e:((2 ^ 53:Nat):Rat) = 9007199254740992 := rfl
 unfold ulp; grind
theorem Up.near1 {r:F} {v:Rat} (h:Up r v) (h0:-1 ≤ v) (h1:v ≤ 1):r.q ≤ v + ulp := by
 have := h.near 53 (by omega) (by have:((2 ^ 53:Nat):Rat) = 9007199254740992 := rfl; grind) (by have:((2 ^ 53:Nat):Rat) = 9007199254740992 := rfl; grind)
 have e:((2 ^ 53:Nat):Rat) = 9007199254740992 := rfl
 unfold ulp; grind
theorem AllR.near_lo {r:I} {p q s t:Rat} (h:AllR r p q s t) {m:Rat} (hp:m ≤ p) (hq:m ≤ q) (hs:m ≤ s) (ht:m ≤ t) (b:-1 ≤ p ∧ p ≤ 1 ∧ -1 ≤ q ∧ q ≤ 1 ∧ -1 ≤ s ∧ s ≤ 1 ∧ -1 ≤ t ∧ t ≤ 1):m - ulp ≤ r.lo.q := by
 obtain ⟨b1,b2,b3,b4,b5,b6,b7,b8⟩ := b
 rcases h.loE with h | h | h | h
 ·have := h.near1 b1 b2; grind
 ·have := h.near1 b3 b4; grind
 ·have := h.near1 b5 b6; grind
 ·have := h.near1 b7 b8; grind
theorem AllR.near_hi {r:I} {p q s t:Rat} (h:AllR r p q s t) {m:Rat} (hp:p ≤ m) (hq:q ≤ m) (hs:s ≤ m) (ht:t ≤ m) (b:-1 ≤ p ∧ p ≤ 1 ∧ -1 ≤ q ∧ q ≤ 1 ∧ -1 ≤ s ∧ s ≤ 1 ∧ -1 ≤ t ∧ t ≤ 1):r.hi.q ≤ m + ulp := by
 obtain ⟨b1,b2,b3,b4,b5,b6,b7,b8⟩ := b
 rcases h.hiE with h | h | h | h
 ·have := h.near1 b1 b2; grind
 ·have := h.near1 b3 b4; grind
 ·have := h.near1 b5 b6; grind
 ·have := h.near1 b7 b8; grind
theorem AllR.top {r:I} {p q s t:Rat} (h:AllR r p q s t) {c:F} (hp:c.q ≤ p) (hq:c.q ≤ q) (hs:c.q ≤ s) (ht:c.q ≤ t):c.q ≤ r.lo.q := by
 rcases h.loE with h | h | h | h
 ·exact h.top c hp
 ·exact h.top c hq
 ·exact h.top c hs
 ·exact h.top c ht
theorem AllR.bot {r:I} {p q s t:Rat} (h:AllR r p q s t) {c:F} (hp:p ≤ c.q) (hq:q ≤ c.q) (hs:s ≤ c.q) (ht:t ≤ c.q):r.hi.q ≤ c.q := by
 rcases h.hiE with h | h | h | h
 ·exact h.bot c hp
 ·exact h.bot c hq
 ·exact h.bot c hs
 ·exact h.bot c ht
theorem q_of {x:F} {n:Int} {s:Nat} (h:x.z * ((2 ^ s:Nat):Int) = n * (S:Int)):x.q * ((2 ^ s:Nat):Rat) = (n:Rat) := by
 have h1:((x.z * ((2 ^ s:Nat):Int):Int):Rat) = ((n * (S:Int):Int):Rat) := by rw [h]
 rw [Rat.intCast_mul,Rat.intCast_mul,Rat.intCast_natCast,Rat.intCast_natCast,← F.q_mul] at h1
 have := S_ne
 generalize ((2 ^ s:Nat):Rat) = w at *
 grind
set_option maxRecDepth 100000 in
theorem one_q:one64.q = 1 := by
 have := q_of (x := one64) (n := 1) (s := 0) (by decide +kernel)
 simpa using this
structure U01 (a:I):Prop where
 lo:0 ≤ a.lo.q
 rt:a.lo.q ≤ a.hi.q
 hi:a.hi.q ≤ 1
theorem U01.sm {a:I} (h:U01 a):Sm a := ⟨by have := h.lo; grind,h.rt,by have := h.hi; grind⟩
def wd (a:I):Rat := a.hi.q - a.lo.q
theorem bare_ok {a:I} (ha:Sm a):0 ≤ (bareI a).lo.q ∧ (bareI a).lo.q ≤ (bareI a).hi.q ∧ (bareI a).hi.q ≤ 67108864 ∧ (∀ v,Mem a v → (bareI a).lo.q * (bareI a).lo.q ≤ v * v ∧ v * v ≤ (bareI a).hi.q * (bareI a).hi.q) ∧ (bareI a).hi.q - (bareI a).lo.q ≤ wd a ∧ (∀ m,-m ≤ a.lo.q → a.hi.q ≤ m → (bareI a).hi.q ≤ m) := by
 have x1 := ha.lo; have x2 := ha.hi; have x3 := ha.rt
 have key:∀ {x v y:Rat},0 ≤ x → x ≤ v → v ≤ y → x * x ≤ v * v ∧ v * v ≤ y * y := by
  intro x v y h1 h2 h3
  have a1 := Rat.mul_nonneg h1 (show 0 ≤ v - x by grind)
  have a2 := Rat.mul_nonneg (show 0 ≤ v by grind) (show 0 ≤ v - x by grind)
  have a3 := Rat.mul_nonneg (show 0 ≤ v by grind) (show 0 ≤ y - v by grind)
  have a4 := Rat.mul_nonneg (show 0 ≤ y by grind) (show 0 ≤ y - v by grind)
  constructor <;> grind
 have hz:∀ x:F,0 ≤ x.k ↔ 0 ≤ x.q := fun x => by rw [← q_zero,q_le]; rfl
 unfold bareI wd
 cases h1:decide (0 ≤ a.lo.k)
 ·have g1 := of_decide_eq_false h1
  rw [hz] at g1
  rw [cond_false]
  cases h2:decide (a.hi.k ≤ 0)
  ·have g2 := of_decide_eq_false h2
   have g3:¬ a.hi.q ≤ 0 := by rw [← q_zero,q_le]; exact g2
   rw [cond_false]
   simp only
   have m1 := mxF_q a.hi a.lo.neg
   have m2 := mxF_or a.hi a.lo.neg
   rw [q_neg] at m1
   have m3:(mxF a.hi a.lo.neg).q = a.hi.q ∨ (mxF a.hi a.lo.neg).q = -a.lo.q := by
    rcases m2 with h | h
    ·left; rw [h]
    ·right; rw [h,q_neg]
   rw [q_zero]
   refine ⟨Rat.le_refl,by grind,by grind,?_,by grind,by grind⟩
   intro v hv
   have v1 := hv.lo; have v2 := hv.hi
   rcases (Rat.le_total:0 ≤ v ∨ v ≤ 0) with h | h
   ·exact key Rat.le_refl h (by grind)
   ·have := @key 0 (-v) (mxF a.hi a.lo.neg).q Rat.le_refl (by grind) (by grind)
    constructor <;> grind
  ·have g2 := of_decide_eq_true h2
   have g3:a.hi.q ≤ 0 := by rw [← q_zero,q_le]; exact g2
   rw [cond_true]
   simp only [turnI,q_neg]
   refine ⟨by grind,by grind,by grind,?_,by grind,by grind⟩
   intro v hv
   have v1 := hv.lo; have v2 := hv.hi
   have := @key (-a.hi.q) (-v) (-a.lo.q) (by grind) (by grind) (by grind)
   constructor <;> grind
 ·have g1 := of_decide_eq_true h1
  rw [hz] at g1
  rw [cond_true]
  exact ⟨g1,x3,x2,fun v hv => key g1 hv.lo hv.hi,Rat.le_refl,fun m _ h => h⟩
theorem cSqr_ok {a:I} (ha:Sm a):∃ r,cSqr dMul 0 a = (r,0) ∧ Dn r.lo ((bareI a).lo.q * (bareI a).lo.q) ∧ Up r.hi ((bareI a).hi.q * (bareI a).hi.q) := by
 obtain ⟨c,hc⟩ := low_ex
 obtain ⟨d,hd⟩ := big_ex
 obtain ⟨b1,b2,b3,_⟩ := bare_ok ha
 have p1 := prod_bd (x := (bareI a).lo.q) (y := (bareI a).lo.q) (by grind) (by grind) (by grind) (by grind)
 have p2 := prod_bd (x := (bareI a).hi.q) (y := (bareI a).hi.q) (by grind) (by grind) (by grind) (by grind)
 obtain ⟨l,e1,h1⟩ := @dMul_dn (bareI a).lo (bareI a).lo c (by rw [hc]; exact p1.1)
 obtain ⟨h,e2,h2⟩ := @dMul_up (bareI a).hi (bareI a).hi d (by rw [hd]; exact p2.2)
 refine ⟨⟨l,h⟩,?_,h1,h2⟩
 unfold cSqr
 rw [e1,e2,ends_ok,ask_ok (rt_q ha.rt) rfl]
theorem sqr_mem {r a:I} {v:Rat} (ha:Sm a) (h1:Dn r.lo ((bareI a).lo.q * (bareI a).lo.q)) (h2:Up r.hi ((bareI a).hi.q * (bareI a).hi.q)) (hv:Mem a v):Mem r (v * v) := by
 have := (bare_ok ha).2.2.2.1 v hv
 have := h1.le; have := h2.ge
 exact ⟨by grind,by grind⟩
def nestR (y:Rat):List Rat → Rat → Rat
 | [],p => p
 | d :: l,p => nestR y l (1 - y / d * p)
structure Ang (a:I):Prop where
 lo:-(101 / 128) ≤ a.lo.q
 rt:a.lo.q ≤ a.hi.q
 hi:a.hi.q ≤ 101 / 128
theorem Ang.sm {a:I} (h:Ang a):Sm a := ⟨by have := h.lo; grind,h.rt,by have := h.hi; grind⟩
theorem q_of' {x:F} {n:Int} {s:Nat} {w:Rat} (h:decide (x.z * ((2 ^ s:Nat):Int) = n * (S:Int)) = true) (hw:((2 ^ s:Nat):Rat) = w):x.q * w = (n:Rat) := by
 rw [← hw]; exact q_of (of_decide_eq_true h)
theorem q_int {x:F} {n:Int} (h:decide (x.z * ((2 ^ 0:Nat):Int) = n * (S:Int)) = true):x.q = (n:Rat) := by
 have := q_of' (w := 1) h rfl
 grind
theorem sq_bd {x m:Rat} (h1:-m ≤ x) (h2:x ≤ m):x * x ≤ m * m := by
 have := Rat.mul_nonneg (show 0 ≤ m - x by grind) (show 0 ≤ m + x by grind)
 grind
theorem sq_nn (x:Rat):0 ≤ x * x := by
 rcases (Rat.le_total:0 ≤ x ∨ x ≤ 0) with h | h
 ·exact Rat.mul_nonneg h h
 ·have := Rat.mul_nonneg (show 0 ≤ -x by grind) (show 0 ≤ -x by grind); grind
structure Circ (S C:I):Prop where
 low:∃ s c,Mem S s ∧ Mem C c ∧ s * s + c * c ≤ 1
 high:∃ s c,Mem S s ∧ Mem C c ∧ 1 ≤ s * s + c * c
theorem Circ.turn {S C:I} (h:Circ S C):Circ (turnI S) C := by
 obtain ⟨⟨s,c,h1,h2,h3⟩,⟨u,v,k1,k2,k3⟩⟩ := h
 exact ⟨⟨-s,c,turn_mem h1,h2,by grind⟩,⟨-u,v,turn_mem k1,k2,by grind⟩⟩
set_option maxRecDepth 100000 in
theorem mone_q:mone64.q = -1 := by
 have e:mone64 = one64.neg := F.ext' (by rw [F.neg_k,one64_k,mone64_k])
 rw [e,q_neg,one_q]
theorem withI_eq {a:I} {v:Rat} (h:Mem a v) (h0:-1 ≤ v) (h1:v ≤ 1):withI a = ⟨mxF a.lo mone64,mnF a.hi one64⟩ := by
 have k1:(mxF a.lo mone64).q ≤ v := by
  rcases mxF_or a.lo mone64 with e | e <;> rw [e]
  ·exact h.lo
  ·rw [mone_q]; exact h0
 have k2:v ≤ (mnF a.hi one64).q := by
  rcases mnF_or a.hi one64 with e | e <;> rw [e]
  ·exact h.hi
  ·rw [one_q]; exact h1
 have k3 := q_le.1 (Rat.le_trans k1 k2)
 unfold withI
 rw [show decide ((mnF a.hi one64).k < (mxF a.lo mone64).k) = false from decide_eq_false (by omega),cond_false]
set_option maxRecDepth 100000 in
theorem consts:c1.q * 8 = 1 ∧ c3.q * 8 = 3 ∧ c5.q * 8 = 5 ∧ c7.q * 8 = 7 ∧ q1.q * 4 = 1 ∧ q2.q * 4 = 2 ∧ q3.q * 4 = 3 ∧ (toF 0).q = 0 :=
 ⟨q_of' (n := 1) (s := 3) (by decide +kernel) rfl,q_of' (n := 3) (s := 3) (by decide +kernel) rfl,q_of' (n := 5) (s := 3) (by decide +kernel) rfl,q_of' (n := 7) (s := 3) (by decide +kernel) rfl,
  q_of' (n := 1) (s := 2) (by decide +kernel) rfl,q_of' (n := 2) (s := 2) (by decide +kernel) rfl,q_of' (n := 3) (s := 2) (by decide +kernel) rfl,q_int (n := 0) (by decide +kernel)⟩
end Bu
namespace Bu
open Rx Go
theorem In1.sm {a:I} (h:In1 a):Sm a := by
 have h1 := q_le.2 h.lo; have h2 := q_le.2 h.hi; have h3 := q_le.2 h.rt
 rw [mone_q] at h1; rw [one_q] at h2
 exact ⟨by grind,h3,by grind⟩
theorem sqr_in {a:I} (h:In1 a):∃ r,cSqr dMul 0 a = (r,0) ∧ U01 r ∧ ∀ v,Mem a v → Mem r (v * v) := by
 obtain ⟨r,e,h1,h2⟩ := cSqr_ok h.sm
 obtain ⟨b1,b2,b3,b4,b5,b6⟩ := bare_ok h.sm
 have g1 := q_le.2 h.lo; have g2 := q_le.2 h.hi
 rw [mone_q] at g1; rw [one_q] at g2
 have b7 := b6 1 g1 g2
 refine ⟨r,e,⟨?_,?_,?_⟩,fun v hv => sqr_mem h.sm h1 h2 hv⟩
 ·rw [← q_zero]; exact h1.top F.zero (by rw [q_zero]; exact sq_nn _)
 ·have := h1.le; have := h2.ge
  have k1 := Rat.mul_nonneg b1 (show 0 ≤ (bareI a).hi.q - (bareI a).lo.q by grind)
  have k2 := Rat.mul_nonneg (show 0 ≤ (bareI a).hi.q by grind) (show 0 ≤ (bareI a).hi.q - (bareI a).lo.q by grind)
  grind
 ·rw [← one_q]
  refine h2.bot one64 ?_
  rw [one_q]
  have := sq_bd (x := (bareI a).hi.q) (m := 1) (by grind) b7
  grind
end Bu
