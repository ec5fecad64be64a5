/- Known functions, in plain words: of directed rounding. Words added, subtracted: plain. Known functions of package dir, with names for what they compute: so nothing is computed that need not be. Quotients, rounded: plain. Roots, rounded: plain. pairs.Value: a table of functions in a map, between two pieces that the reckoner runs. micro.parts: the parts of two directions, one by one. -/
import Derived.Test.YtlhlcefkmhhmjaaGreatZ06
import Derived.Test.YtlhlcefkmhhmjaaGreatZ07
import Derived.Laws.BitsLemmas
import Derived.Maps.Own
import Derived.Carry
import Derived.RangeFuncNested
import Derived.RangeFuncBound
import Derived.RangeFuncCalls
import Derived.RangeFuncLeaves
import Derived.RangeFuncBox
import Derived.Shelf.Abstract
import Derived.WalkKit
import Derived.OwnWalkIn
import Derived.TacticsInMore
import Derived.LoopNIn
import Derived.LoopIn
import Derived.Test.YtlhlcefkmhhmjaaGreatProg
namespace Rx
set_option linter.all false
open Go Bu

def oRight : List SV → Dec → Option (SV × Dec × Obs)
  | [.fl _], ds => some (.b true, ds, [])
  | [.f w], ds => match takeB ds (rightB w) with
    | some (true, ds', ob) => some (.b true, ds', ob)
    | some (false, ds', ob) => some (.b false, ds', (Nat.blt w 18446744073709551616, true) :: ob)
    | none => none
  | _, _ => none
end Rx
namespace Rx
set_option linter.all false
open Go Bu
/-- a number by a power of two -/
def ldF (x : F) (n : Int) : F := if 0 ≤ n then F.of (flZ (x.z * ((2 ^ n.toNat : Nat) : Int))) else F.of (flZ (x.z / ((2 ^ (-n).toNat : Nat) : Int)))
instance (x y : F) (n : Int) : Decidable (Sc x y n) := by unfold Sc; infer_instance
def oLdexp : List SV → Dec → Option (SV × Dec × Obs)
  | [.fl x, n], ds => match intS n with
    | some (.i64, k) => some (.fl (ldF x k), ds, [(decide (Sc x (ldF x k) k), true)])
    | _ => none
  | _, _ => none
/-- a function that answers always the same -/
def oConst (x : SV) : List SV → Dec → Option (SV × Dec × Obs)
  | [], ds => some (x, ds, [])
  | _, _ => none
theorem zero_k' : (toF 0).k = 0 := by decide +kernel
def oFb : List SV → Option (SV × Obs)
  | [.f x] => some (.si .u64 x, [])
  | [.fl x] => some (.si .u64 x.b, [])
  | _ => none
def oFf : List SV → Option (SV × Obs)
  | [.si .u64 n] => some (.f n.toNat, [])
  | [.i .u64 n] => some (.f n.toNat, [])
  | _ => none
def u64B (n : Int) : Bool := decide (0 ≤ n ∧ n ≤ 18446744073709551615)
def oAdd64 : List SV → Option (SV × Obs)
  | [x, y, z] => match intS x, intS y, intS z with
    | some (.u64, a), some (.u64, b), some (.u64, c) => some (.tup [.si .u64 ((a + b + c) % 18446744073709551616), .si .u64 ((a + b + c) / 18446744073709551616)], [(decide (0 ≤ a ∧ 0 ≤ b ∧ 0 ≤ c ∧ c ≤ 1), true)])
    | _, _, _ => none
  | _ => none
def oSub64 : List SV → Option (SV × Obs)
  | [x, y, z] => match intS x, intS y, intS z with
    | some (.u64, a), some (.u64, b), some (.u64, c) => some (.tup [.si .u64 ((a - b - c) % 18446744073709551616), .si .u64 (if a < b + c then 1 else 0)], [(decide (0 ≤ a ∧ 0 ≤ b ∧ 0 ≤ c ∧ c ≤ 1 ∧ a ≤ 18446744073709551615 ∧ b ≤ 18446744073709551615), true)])
    | _, _, _ => none
  | _ => none
end Rx
namespace Bu
set_option linter.all false

theorem W128_q : W128 = 18446744073709551616 * 18446744073709551616 := by decide
theorem wn_same {m s : Nat} (h : m * 18446744073709551616 + s < W128) : wn (((m : Int) + hi s + (0 + lo s + 0) / 18446744073709551616) % 18446744073709551616) ((0 + lo s + 0) % 18446744073709551616) = m * 18446744073709551616 + s := by
  rw [W128_q] at h
  unfold wn hi lo
  omega
theorem bor_yes {x y : Int} (h : x < y) : (if x < y then (1 : Int) else 0) = 1 := if_pos h
theorem bor_no {x y : Int} (h : ¬ x < y) : (if x < y then (1 : Int) else 0) = 0 := if_neg h
theorem wn_opp {m s : Nat} (h : m * 18446744073709551616 < W128) (hs : s ≤ m * 18446744073709551616) :
    wn (((m : Int) - hi s - (if (0 : Int) < lo s + 0 then 1 else 0)) % 18446744073709551616) ((0 - lo s - 0) % 18446744073709551616) = m * 18446744073709551616 - s := by
  rw [W128_q] at h
  by_cases c : (0 : Int) < lo s + 0
  · rw [bor_yes c]
    unfold wn hi lo at *
    omega
  · rw [bor_no c]
    unfold wn hi lo at *
    omega
theorem wn_one {h l : Int} {V : Nat} (h0 : 0 ≤ h) (h1 : h < 18446744073709551616) (l0 : 0 ≤ l) (l1 : l < 18446744073709551616) (hv : wn h l = V) (hp : 1 ≤ V) :
    wn ((h - 0 - (if l < 1 + 0 then 1 else 0)) % 18446744073709551616) ((l - 1 - 0) % 18446744073709551616) = V - 1 := by
  subst hv
  obtain ⟨a, rfl⟩ := Int.eq_ofNat_of_zero_le h0
  obtain ⟨b, rfl⟩ := Int.eq_ofNat_of_zero_le l0
  unfold wn at hp ⊢
  by_cases c : (b : Int) < 1 + 0
  · rw [bor_yes c]
    have e1 : ((b : Int) - 1 - 0) % 18446744073709551616 = 18446744073709551615 := by omega
    have e2 : ((a : Int) - 0 - 1) % 18446744073709551616 = (a : Int) - 1 := by omega
    rw [e1, e2]
    omega
  · rw [bor_no c]
    have e1 : ((b : Int) - 1 - 0) % 18446744073709551616 = (b : Int) - 1 := by omega
    have e2 : ((a : Int) - 0 - 0) % 18446744073709551616 = (a : Int) := by omega
    rw [e1, e2]
    omega
open Go Rx

def dI (a b : F) : Int := IntKind.i64.wrap (((ex a : Int) - 1074) - ((ex b : Int) - 1074))
def sI (a b : F) : Nat := wn (mn b) 0 / 2 ^ (dI a b).toNat
def eI (a : F) : Int := IntKind.i64.wrap (((ex a : Int) - 1074) - 64)

theorem wrap_small {n : Int} (h : -9223372036854775808 ≤ n) (h2 : n < 9223372036854775808) : IntKind.i64.wrap n = n := by rw [IntKind.wrap_i64]; omega
theorem eI_eq (a : F) : eI a = (ex a : Int) - 1074 - 64 := by
  have h1 := ex_le a
  exact wrap_small (by omega) (by omega)
theorem dI_eq {a b : F} (hle : ex b ≤ ex a) : dI a b = ((ex a - ex b : Nat) : Int) := by
  have h1 := ex_le a
  have h2 := ex_le b
  have : ((ex a - ex b : Nat) : Int) = ((ex a : Int) - 1074) - ((ex b : Int) - 1074) := by omega
  rw [this]
  exact wrap_small (by omega) (by omega)
theorem wn_zero (n : Nat) : wn n 0 = n * 18446744073709551616 := by
  unfold wn
  rw [Int.toNat_natCast, Int.toNat_zero, Nat.add_zero]
theorem sI_eq {a b : F} (hle : ex b ≤ ex a) : sI a b = smallN (mn b) (ex a - ex b) := by
  unfold sI smallN
  rw [dI_eq hle, wn_zero, Int.toNat_natCast]
theorem mI_eq {a b : F} (hle : ex b ≤ ex a) : decide (wn (mn b) 0 % 2 ^ (dI a b).toNat ≠ 0) = moreN (mn b) (ex a - ex b) := by
  unfold moreN
  rw [dI_eq hle, wn_zero, Int.toNat_natCast]

def mI (a b : F) (d : Bool) : Obs := [(u64B (mn b), true), (u64B 0, true), (decide (0 ≤ dI a b), true), (decide (wn (mn b) 0 % 2 ^ (dI a b).toNat ≠ 0), d)]
def hS (a b : F) : Int := ((mn a : Int) + hi (sI a b) + (0 + lo (sI a b) + 0) / 18446744073709551616) % 18446744073709551616
def lS (a b : F) : Int := (0 + lo (sI a b) + 0) % 18446744073709551616
def hO (a b : F) : Int := ((mn a : Int) - hi (sI a b) - (if (0 : Int) < lo (sI a b) + 0 then 1 else 0)) % 18446744073709551616
def lO (a b : F) : Int := (0 - lo (sI a b) - 0) % 18446744073709551616
def hM (a b : F) : Int := (hO a b - 0 - (if lO a b < 1 + 0 then 1 else 0)) % 18446744073709551616
def lM (a b : F) : Int := (lO a b - 1 - 0) % 18446744073709551616
/-- what stands in both words -/
def hA (same more : Bool) (a b : F) : Int := if same then hS a b else if more then hM a b else hO a b
def lA (same more : Bool) (a b : F) : Int := if same then lS a b else if more then lM a b else lO a b
def w1 (a b : F) : Obs := [(u64B (mn a), true), (u64B 0, true), (u64B (hi (sI a b)), true), (u64B (lo (sI a b)), true)]
def w2 (a b : F) : Obs := [(u64B (hO a b), true), (u64B (lO a b), true), (u64B 0, true), (u64B 1, true)]
def rd (h l e : Int) : Obs := [(u64B h, true), (u64B l, true), (decide (-5000 ≤ e ∧ e ≤ 5000), true)]
def wAll (same more : Bool) (a b : F) : Obs := if same then w1 a b else if more then w2 a b ++ w1 a b else w1 a b
def obA (same more : Bool) (a b : F) : Obs := rd (hA same more a b) (lA same more a b) (eI a) ++ wAll same more a b ++ mI a b more

theorem u64_mk {n : Int} (h0 : 0 ≤ n) (h1 : n ≤ 18446744073709551615) : u64B n = true := decide_eq_true ⟨h0, h1⟩
theorem mod_u64 (n : Int) : u64B (n % 18446744073709551616) = true := u64_mk (by omega) (by omega)
theorem hO_u (a b : F) : u64B (hO a b) = true := mod_u64 _
theorem lO_u (a b : F) : u64B (lO a b) = true := mod_u64 _
theorem hO_r (a b : F) : 0 ≤ hO a b ∧ hO a b < 18446744073709551616 := by unfold hO; omega
theorem lO_r (a b : F) : 0 ≤ lO a b ∧ lO a b < 18446744073709551616 := by unfold lO; omega
theorem hA_u (s m : Bool) (a b : F) : u64B (hA s m a b) = true := by
  unfold hA hS hM
  split
  · exact mod_u64 _
  · split
    · exact mod_u64 _
    · exact hO_u a b
theorem lA_u (s m : Bool) (a b : F) : u64B (lA s m a b) = true := by
  unfold lA lS lM
  split
  · exact mod_u64 _
  · split
    · exact mod_u64 _
    · exact lO_u a b
theorem mn_u64 (x : F) : u64B (mn x) = true := u64_mk (by omega) (by have := mn_lt x; omega)
theorem u64_0 : u64B 0 = true := by decide
theorem u64_1 : u64B 1 = true := by decide

theorem obsB_app (a b : Obs) : obsB (a ++ b) = (obsB a && obsB b) := List.all_append
theorem obsB_cons (c d : Bool) (r : Obs) : obsB ((c, d) :: r) = ((c == d) && obsB r) := rfl
theorem obsB_nil : obsB [] = true := rfl
theorem obsB_yes {c d : Bool} {r : Obs} (h : c = d) (hr : obsB r = true) : obsB ((c, d) :: r) = true := by rw [obsB_cons, h, hr, Bool.and_true, beq_self_eq_true]

theorem hv_add {a b : F} (h : Fst a b) : wn (hA (sg a == sg b) (moreN (mn b) (ex a - ex b)) a b) (lA (sg a == sg b) (moreN (mn b) (ex a - ex b)) a b) = addN (sg a == sg b) (mn a) (mn b) (ex a - ex b) := by
  have hle : ex b ≤ ex a := by unfold Fst at h; omega
  have h5 := small_le (al_of h)
  have h6 := (wn_add true (al_of h)).2
  have hO1 := hO_r a b
  have lO1 := lO_r a b
  have h7 : smallN (mn b) (ex a - ex b) ≤ mn a * 18446744073709551616 := Nat.le_trans (Nat.le_add_right _ _) h5
  have h8 : mn a * 18446744073709551616 < W128 := Nat.lt_of_le_of_lt (Nat.le_add_right _ _) h6
  have hop : wn (hO a b) (lO a b) = mn a * 18446744073709551616 - smallN (mn b) (ex a - ex b) := by
    unfold hO lO
    rw [sI_eq hle]
    exact wn_opp h8 h7
  unfold hA lA addN
  cases (sg a == sg b) with
  | true =>
    rw [if_pos rfl, if_pos rfl, if_pos rfl]
    unfold hS lS
    rw [sI_eq hle]
    exact wn_same h6
  | false =>
    rw [if_neg Bool.false_ne_true, if_neg Bool.false_ne_true, if_neg Bool.false_ne_true]
    cases hm : moreN (mn b) (ex a - ex b) with
    | false => rw [if_neg Bool.false_ne_true, if_neg Bool.false_ne_true, if_neg Bool.false_ne_true, Nat.sub_zero]; exact hop
    | true =>
      rw [hm, if_pos rfl] at h5
      rw [if_pos rfl, if_pos rfl, if_pos rfl]
      exact wn_one hO1.1 hO1.2 lO1.1 lO1.2 hop (Nat.le_sub_of_add_le (by rw [Nat.add_comm]; exact h5))
theorem add_val {a b : F} (up : Bool) (h : Fst a b) :
    rndG (sg a) (wn (hA (sg a == sg b) (moreN (mn b) (ex a - ex b)) a b) (lA (sg a == sg b) (moreN (mn b) (ex a - ex b)) a b)) (moreN (mn b) (ex a - ex b)) (eI a) up = dAdd up a b := by
  rw [hv_add h, eI_eq, rndG_dAdd up h]
theorem er_ok (a : F) : decide (-5000 ≤ eI a ∧ eI a ≤ 5000) = true := by
  have h1 := ex_le a
  have h2 := eI_eq a
  exact decide_eq_true (by omega)
theorem d0_ok {a b : F} (h : ex b ≤ ex a) : decide (0 ≤ dI a b) = true := by
  have h2 := dI_eq h
  exact decide_eq_true (by omega)
theorem w1_ok {a b : F} (h : Fst a b) : obsB (w1 a b) = true := by
  have hle : ex b ≤ ex a := by unfold Fst at h; omega
  have hs : u64B (hi (sI a b)) = true := by
    refine u64_mk (hi_nonneg _) (hi_le _ ?_)
    rw [sI_eq hle]
    exact Nat.lt_of_le_of_lt (Nat.le_add_left _ _) (wn_add true (al_of h)).2
  exact obsB_yes (mn_u64 a) (obsB_yes u64_0 (obsB_yes hs (obsB_yes (u64_mk (lo_nonneg _) (lo_le _)) obsB_nil)))
theorem w2_ok (a b : F) : obsB (w2 a b) = true := obsB_yes (hO_u a b) (obsB_yes (lO_u a b) (obsB_yes u64_0 (obsB_yes u64_1 obsB_nil)))
theorem mI_ok {a b : F} (hle : ex b ≤ ex a) : obsB (mI a b (moreN (mn b) (ex a - ex b))) = true :=
  obsB_yes (mn_u64 b) (obsB_yes u64_0 (obsB_yes (d0_ok hle) (obsB_yes (mI_eq hle) obsB_nil)))
theorem rd_ok (s m : Bool) (a b : F) : obsB (rd (hA s m a b) (lA s m a b) (eI a)) = true := obsB_yes (hA_u s m a b) (obsB_yes (lA_u s m a b) (obsB_yes (er_ok a) obsB_nil))
theorem wAll_ok {a b : F} (s m : Bool) (h : Fst a b) : obsB (wAll s m a b) = true := by
  unfold wAll
  split
  · exact w1_ok h
  · split
    · rw [obsB_app, w1_ok h, w2_ok]; rfl
    · exact w1_ok h
theorem obA_ok {a b : F} (same : Bool) (h : Fst a b) : obsB (obA same (moreN (mn b) (ex a - ex b)) a b) = true := by
  have hle : ex b ≤ ex a := by unfold Fst at h; omega
  unfold obA
  rw [obsB_app, obsB_app, rd_ok, wAll_ok _ _ h, mI_ok hle]; rfl
end Bu
namespace Bu
set_option linter.all false
open Rx Go

structure Kd where
  sg : F → Bool
  mn : F → Int
  ex : F → Int
  dh : Int → Int → Int → Int
  dl : Int → Int → Int → Int
  dm : Int → Int → Int → Bool
  dn : Int → Bool
  u : Int → Bool
  rF : Bool → Int → Int → Bool → Int → Bool → F
  rI : Bool → Int → Int → Bool → Int → Bool → Int
  re : Int → Bool
  ah : Int → Int → Int → Int → Int
  al : Int → Int → Int → Int → Int
  sh : Int → Int → Int → Int → Int
  sl : Int → Int → Int → Int → Int

def kParts (K : Kd) : List SV → Dec → Option (SV × Dec × Obs)
  | [.fl x], ds => (takeB ds (K.sg x)).map fun r => (.tup [.b r.1, .si .u64 (K.mn x), .si .i64 (K.ex x)], r.2.1, r.2.2)
  | _, _ => none
def kDown (K : Kd) : List SV → Dec → Option (SV × Dec × Obs)
  | [.agg [x, y], z], ds => match intS x, intS y, intS z with
    | some (.u64, a), some (.u64, b), some (.i64, n) => (takeB ds (K.dm a b n)).map fun r =>
      (.tup [.agg [.si .u64 (K.dh a b n), .si .u64 (K.dl a b n)], .b r.1], r.2.1, (K.u a, true) :: (K.u b, true) :: (K.dn n, true) :: r.2.2)
    | _, _, _ => none
  | _, _ => none
def kRound (K : Kd) : List SV → Dec → Option (SV × Dec × Obs)
  | [.agg [.b minus, x, y, .b more, z], .b up], ds => match intS x, intS y, intS z with
    | some (.u64, a), some (.u64, b), some (.i64, e) => some (.tup [.fl (K.rF minus a b more e up), .si .i64 (K.rI minus a b more e up)], ds, [(K.u a, true), (K.u b, true), (K.re e, true)])
    | _, _, _ => none
  | _, _ => none
def kWadd (K : Kd) : List SV → Dec → Option (SV × Dec × Obs)
  | [.agg [x, y], .agg [z, t]], ds => match intS x, intS y, intS z, intS t with
    | some (.u64, a), some (.u64, b), some (.u64, c), some (.u64, d) => some (.agg [.si .u64 (K.ah a b c d), .si .u64 (K.al a b c d)], ds, [(K.u a, true), (K.u b, true), (K.u c, true), (K.u d, true)])
    | _, _, _, _ => none
  | _, _ => none
def kWsub (K : Kd) : List SV → Dec → Option (SV × Dec × Obs)
  | [.agg [x, y], .agg [z, t]], ds => match intS x, intS y, intS z, intS t with
    | some (.u64, a), some (.u64, b), some (.u64, c), some (.u64, d) => some (.agg [.si .u64 (K.sh a b c d), .si .u64 (K.sl a b c d)], ds, [(K.u a, true), (K.u b, true), (K.u c, true), (K.u d, true)])
    | _, _, _, _ => none
  | _, _ => none

def KR : Kd where
  sg := sg
  mn := fun x => (mn x : Int)
  ex := fun x => (ex x : Int) - 1074
  dh := fun a b n => hi (wn a b / 2 ^ n.toNat)
  dl := fun a b n => lo (wn a b / 2 ^ n.toNat)
  dm := fun a b n => decide (wn a b % 2 ^ n.toNat ≠ 0)
  dn := fun n => decide (0 ≤ n)
  u := u64B
  rF := fun minus a b more e up => (rndG minus (wn a b) more e up).1
  rI := fun minus a b more e up => (rndG minus (wn a b) more e up).2
  re := fun e => decide (-5000 ≤ e ∧ e ≤ 5000)
  ah := fun a b c d => (a + c + (b + d + 0) / 18446744073709551616) % 18446744073709551616
  al := fun _ b _ d => (b + d + 0) % 18446744073709551616
  sh := fun a b c d => (a - c - (if b < d + 0 then 1 else 0)) % 18446744073709551616
  sl := fun _ b _ d => (b - d - 0) % 18446744073709551616

/-- with names -/
def dK (K : Kd) (a b : F) : Int := IntKind.i64.wrap (K.ex a - K.ex b)
def eK (K : Kd) (a : F) : Int := IntKind.i64.wrap (K.ex a - 64)
def sH (K : Kd) (a b : F) : Int := K.dh (K.mn b) 0 (dK K a b)
def sL (K : Kd) (a b : F) : Int := K.dl (K.mn b) 0 (dK K a b)
def mK (K : Kd) (a b : F) (d : Bool) : Obs := [(K.u (K.mn b), true), (K.u 0, true), (K.dn (dK K a b), true), (K.dm (K.mn b) 0 (dK K a b), d)]
def oH (K : Kd) (a b : F) : Int := K.sh (K.mn a) 0 (sH K a b) (sL K a b)
def oL (K : Kd) (a b : F) : Int := K.sl (K.mn a) 0 (sH K a b) (sL K a b)
def hK (K : Kd) (same more : Bool) (a b : F) : Int := if same then K.ah (K.mn a) 0 (sH K a b) (sL K a b) else if more then K.sh (oH K a b) (oL K a b) 0 1 else oH K a b
def lK (K : Kd) (same more : Bool) (a b : F) : Int := if same then K.al (K.mn a) 0 (sH K a b) (sL K a b) else if more then K.sl (oH K a b) (oL K a b) 0 1 else oL K a b
def w1K (K : Kd) (a b : F) : Obs := [(K.u (K.mn a), true), (K.u 0, true), (K.u (sH K a b), true), (K.u (sL K a b), true)]
def w2K (K : Kd) (a b : F) : Obs := [(K.u (oH K a b), true), (K.u (oL K a b), true), (K.u 0, true), (K.u 1, true)]
def rdK (K : Kd) (h l e : Int) : Obs := [(K.u h, true), (K.u l, true), (K.re e, true)]
def wAllK (K : Kd) (same more : Bool) (a b : F) : Obs := if same then w1K K a b else if more then w2K K a b ++ w1K K a b else w1K K a b
def obK (K : Kd) (same more : Bool) (a b : F) : Obs := rdK K (hK K same more a b) (lK K same more a b) (eK K a) ++ wAllK K same more a b ++ mK K a b more

theorem obK_R (s m : Bool) (a b : F) : obK KR s m a b = obA s m a b := rfl
end Bu
namespace Bu
set_option linter.all false
open Ieee

/-- so many places up, that the uppermost of 64 stands -/
def nlz (m : Nat) : Nat := 64 - blen m
theorem nlz_le (m : Nat) : nlz m ≤ 64 := by unfold nlz; omega
theorem norm_bounds {m : Nat} (h0 : m ≠ 0) (h : m < 18446744073709551616) : 9223372036854775808 ≤ m * 2 ^ nlz m ∧ m * 2 ^ nlz m < 18446744073709551616 := by
  have hl : blen m = m.log2 + 1 := by unfold blen; rw [if_neg h0]
  have h1 := Nat.log2_self_le h0
  have h2 : m < 2 ^ (m.log2 + 1) := Nat.lt_log2_self
  have h3 : m.log2 < 64 := (Nat.log2_lt h0).2 (by have : (2:Nat) ^ 64 = 18446744073709551616 := rfl; omega)
  have e63 : (9223372036854775808 : Nat) = 2 ^ 63 := by decide
  have e64 : (18446744073709551616 : Nat) = 2 ^ 64 := by decide
  unfold nlz
  rw [hl, e63, e64]
  have p : (2:Nat) ^ m.log2 * 2 ^ (64 - (m.log2 + 1)) = 2 ^ 63 := by rw [← Nat.pow_add]; congr 1; omega
  have q : (2:Nat) ^ (m.log2 + 1) * 2 ^ (64 - (m.log2 + 1)) = 2 ^ 64 := by rw [← Nat.pow_add]; congr 1; omega
  constructor
  · rw [← p]; exact Nat.mul_le_mul_right _ h1
  · rw [← q]; exact Nat.mul_lt_mul_of_pos_right h2 (pow_pos' _)
theorem mn_pos {x : F} (h : x.k ≠ 0) : mn x ≠ 0 := by
  intro c
  have := man_zero _ c
  omega
theorem mn_64 (x : F) : mn x < 18446744073709551616 := by have := mn_lt x; omega

def divM (x : F) : Nat := mn x * 2 ^ nlz (mn x)
def divE (a b : F) : Int := (ex a : Int) - 1074 - nlz (mn a) - ((ex b : Int) - 1074 - nlz (mn b)) - 63

theorem rndG_div (up : Bool) (a b : F) (ha : a.k ≠ 0) (hb : b.k ≠ 0) :
    rndG (sg a != sg b) (divM a * 9223372036854775808 / divM b) (decide (0 < divM a * 9223372036854775808 % divM b)) (divE a b) up = dDiv up a b := by
  have nb := norm_bounds (mn_pos hb) (mn_64 b)
  have na := norm_bounds (mn_pos ha) (mn_64 a)
  obtain ⟨X, hX⟩ : ∃ X, divM a * 9223372036854775808 / divM b = X := ⟨_, rfl⟩
  obtain ⟨R, hR⟩ : ∃ R, divM a * 9223372036854775808 % divM b = R := ⟨_, rfl⟩
  have hdm : divM b * X + R = divM a * 9223372036854775808 := by rw [← hX, ← hR]; exact Nat.div_add_mod _ _
  have hbp : 0 < divM b := by unfold divM; omega
  have hRl : R < divM b := by rw [← hR]; exact Nat.mod_lt _ hbp
  have hXl : 4611686018427387904 ≤ X := by
    rw [← hX, Nat.le_div_iff_mul_le hbp]
    unfold divM
    generalize mn a * 2 ^ nlz (mn a) = M at *
    generalize mn b * 2 ^ nlz (mn b) = N at *
    omega
  rw [hX, hR]
  unfold dDiv
  have hzb : b.z.natAbs = mn b * 2 ^ ex b := by rw [z_parts b]; split <;> omega
  have hz : (if b.k < 0 then -(a.z * S) else a.z * S) = if (sg a != sg b) = true then -((mn a * 2 ^ ex a * S : Nat) : Int) else ((mn a * 2 ^ ex a * S : Nat) : Int) := by
    rw [z_parts a, Int.natCast_mul _ S]
    generalize ((mn a * 2 ^ ex a : Nat) : Int) = A
    by_cases c : b.k < 0
    · have hs : sg b = true := by unfold sg; exact decide_eq_true c
      rw [if_pos c, hs]
      cases sg a <;> simp [Int.neg_mul]
    · have hs : sg b = false := by unfold sg; exact decide_eq_false c
      rw [if_neg c, hs]
      cases sg a <;> simp [Int.neg_mul]
  rw [hz, hzb]
  obtain ⟨s, hs, hS⟩ := S_pow
  rw [hS]
  obtain ⟨p, hp⟩ : ∃ p, (divE a b + 1074).toNat = p := ⟨_, rfl⟩
  obtain ⟨q, hq⟩ : ∃ q, (-(divE a b + 1074)).toNat = q := ⟨_, rfl⟩
  have hpq : p + ex b + nlz (mn a) + 63 = ex a + s + q + nlz (mn b) := by unfold divE at hp hq; omega
  obtain ⟨T, hT⟩ : ∃ T, ex a + s + q + nlz (mn b) = T := ⟨_, rfl⟩
  obtain ⟨U, hU⟩ : ∃ U, nlz (mn a) + nlz (mn b) + 63 = U := ⟨_, rfl⟩
  have key1 : ∀ x : Nat, x * 2 ^ p * (mn b * 2 ^ ex b) * 2 ^ U = (divM b * x) * 2 ^ T := by
    intro x
    have e : U + p + ex b = nlz (mn b) + T := by omega
    have : (2:Nat) ^ U * 2 ^ p * 2 ^ ex b = 2 ^ nlz (mn b) * 2 ^ T := by rw [← Nat.pow_add, ← Nat.pow_add, e, Nat.pow_add]
    unfold divM
    calc x * 2 ^ p * (mn b * 2 ^ ex b) * 2 ^ U = x * mn b * (2 ^ U * 2 ^ p * 2 ^ ex b) := by ac_rfl
      _ = x * mn b * (2 ^ nlz (mn b) * 2 ^ T) := by rw [this]
      _ = mn b * 2 ^ nlz (mn b) * x * 2 ^ T := by ac_rfl
  have key2 : mn a * 2 ^ ex a * 2 ^ s * 2 ^ q * 2 ^ U = (divM a * 9223372036854775808) * 2 ^ T := by
    have e : ex a + s + q + U = nlz (mn a) + 63 + T := by omega
    have e63 : (9223372036854775808 : Nat) = 2 ^ 63 := by decide
    unfold divM
    rw [e63]
    have : (2:Nat) ^ ex a * 2 ^ s * 2 ^ q * 2 ^ U = 2 ^ nlz (mn a) * 2 ^ 63 * 2 ^ T := by rw [← Nat.pow_add, ← Nat.pow_add, ← Nat.pow_add, e, Nat.pow_add, Nat.pow_add]
    calc mn a * 2 ^ ex a * 2 ^ s * 2 ^ q * 2 ^ U = mn a * (2 ^ ex a * 2 ^ s * 2 ^ q * 2 ^ U) := by ac_rfl
      _ = mn a * (2 ^ nlz (mn a) * 2 ^ 63 * 2 ^ T) := by rw [this]
      _ = mn a * 2 ^ nlz (mn a) * 2 ^ 63 * 2 ^ T := by ac_rfl
  have hle : ∀ x : Nat, x * 2 ^ p * (mn b * 2 ^ ex b) ≤ mn a * 2 ^ ex a * 2 ^ s * 2 ^ q ↔ divM b * x ≤ divM a * 9223372036854775808 := by
    intro x
    rw [← Nat.mul_le_mul_right_iff (pow_pos' U), key1, key2, Nat.mul_le_mul_right_iff (pow_pos' T)]
  have hge : ∀ x : Nat, mn a * 2 ^ ex a * 2 ^ s * 2 ^ q ≤ x * 2 ^ p * (mn b * 2 ^ ex b) ↔ divM a * 9223372036854775808 ≤ divM b * x := by
    intro x
    rw [← Nat.mul_le_mul_right_iff (pow_pos' U), key1, key2, Nat.mul_le_mul_right_iff (pow_pos' T)]
  clear key1 key2
  have hmn : mn b ≠ 0 := mn_pos hb
  refine rndG_eq_rndR (Nat.mul_pos (by omega) (pow_pos' _)) ?_ ?_ ?_ ?_
  · rw [hp, hq]; exact (hle X).2 (by omega)
  · rw [hp, hq]
    have : ¬ ((X + 1) * 2 ^ p * (mn b * 2 ^ ex b) ≤ mn a * 2 ^ ex a * 2 ^ s * 2 ^ q) := by
      rw [hle, Nat.mul_add]; omega
    omega
  · rw [hp, hq]
    have h1 := hle X
    have h2 := hge X
    simp only [decide_eq_true_eq]
    constructor
    · intro h0 he
      have := h2.1 (Nat.le_of_eq he)
      omega
    · intro h0
      rcases Nat.eq_zero_or_pos R with c | c
      · exfalso
        apply h0
        exact Nat.le_antisymm (h2.2 (by omega)) (h1.2 (by omega))
      · exact c
  · intro _
    have : (2:Nat) ^ 62 ≤ X := by have : (2:Nat) ^ 62 = 4611686018427387904 := by decide
                                  omega
    have := blen_ge this
    omega

theorem divM_eq (M : Nat) : M / 2 * 18446744073709551616 + M * 9223372036854775808 % 18446744073709551616 = M * 9223372036854775808 := by omega
theorem blen_mn (x : F) : blen (mn x) ≤ 53 := by
  refine blen_le ?_
  have h := mn_lt x
  have e : (2:Nat) ^ 53 = 9007199254740992 := by decide
  omega
theorem rndR_zero (up : Bool) {B : Nat} : rndR up 0 B = (F.zero, 0) := by
  have e0 : flI 0 B = 0 := by unfold flI; rw [if_pos (Int.le_refl 0), Int.toNat_zero, flQ_zero]; rfl
  have e1 : ceI 0 B = 0 := by unfold ceI; rw [Int.neg_zero, e0, Int.neg_zero]
  unfold rndR
  rw [e0, e1]
  cases up <;> decide +kernel
theorem dDiv_zero (up : Bool) (a b : F) (h : a.k = 0) : dDiv up a b = (F.zero, 0) := by
  have hz : a.z = 0 := (z_zero a).2 h
  unfold dDiv
  rw [hz, Int.zero_mul, Int.neg_zero, ite_self, rndR_zero]
end Bu
namespace Bu
set_option linter.all false
open Ieee

/-- the greatest whole number whose square is no greater -/
structure IsRoot (n x : Nat) : Prop where
  le : x * x ≤ n
  lt : n < (x + 1) * (x + 1)
theorem IsRoot.mono {n x y : Nat} (h : IsRoot n x) : y ≤ x ↔ y * y ≤ n := by
  constructor
  · intro hy; exact Nat.le_trans (Nat.mul_le_mul hy hy) h.le
  · intro hy
    rcases Nat.lt_or_ge x y with c | c
    · exfalso
      have := Nat.mul_le_mul (show x + 1 ≤ y from c) (show x + 1 ≤ y from c)
      have := h.lt
      omega
    · exact c

/-- after the rounds down to 2^k -/
structure RootAt (n k x : Nat) : Prop where
  dvd : ∃ a, x = a * 2 ^ k ∧ x + 2 ^ k ≤ 18446744073709551616
  le : x * x ≤ n
  lt : n < (x + 2 ^ k) * (x + 2 ^ k)
theorem RootAt.start {n : Nat} (h : n < W128) : RootAt n 64 0 := by
  refine ⟨⟨0, by simp, by decide⟩, by simp, ?_⟩
  have e : (0 + 2 ^ 64) * (0 + 2 ^ 64) = W128 := by decide
  rw [e]; exact h
theorem RootAt.yes {n k x : Nat} (h : RootAt n (k + 1) x) (hx : (x + 2 ^ k) * (x + 2 ^ k) ≤ n) : RootAt n k (x + 2 ^ k) := by
  obtain ⟨⟨a, h1, h2⟩, h3, h4⟩ := h
  have e : (2:Nat) ^ (k + 1) = 2 ^ k + 2 ^ k := by rw [Nat.pow_succ]; omega
  rw [e] at h1 h2 h4
  refine ⟨⟨2 * a + 1, ?_, by omega⟩, hx, ?_⟩
  · rw [h1, ← Nat.two_mul, Nat.add_mul, Nat.one_mul]; ac_rfl
  · rw [Nat.add_assoc]; exact h4
theorem RootAt.no {n k x : Nat} (h : RootAt n (k + 1) x) (hx : ¬ (x + 2 ^ k) * (x + 2 ^ k) ≤ n) : RootAt n k x := by
  obtain ⟨⟨a, h1, h2⟩, h3, h4⟩ := h
  have e : (2:Nat) ^ (k + 1) = 2 ^ k + 2 ^ k := by rw [Nat.pow_succ]; omega
  rw [e] at h1 h2 h4
  have hp := pow_pos' k
  refine ⟨⟨2 * a, ?_, ?_⟩, h3, Nat.not_le.1 hx⟩
  · rw [h1, ← Nat.two_mul]; ac_rfl
  · omega
theorem RootAt.done {n x : Nat} (h : RootAt n 0 x) : IsRoot n x := ⟨h.le, by have := h.lt; simpa using this⟩

/-- round for round -/
def rootB (n : Nat) : Nat → Nat → Nat
  | 0, x => x
  | k + 1, x => if (x + 2 ^ k) * (x + 2 ^ k) ≤ n then rootB n k (x + 2 ^ k) else rootB n k x
theorem rootB_ok {n : Nat} : ∀ (k x : Nat), RootAt n k x → IsRoot n (rootB n k x)
  | 0, _, h => h.done
  | k + 1, x, h => by
    unfold rootB
    split
    · rename_i c; exact rootB_ok k _ (h.yes c)
    · rename_i c; exact rootB_ok k _ (h.no c)
def root64 (n : Nat) : Nat := rootB n 64 0
theorem root64_ok {n : Nat} (h : n < W128) : IsRoot n (root64 n) := rootB_ok 64 0 (RootAt.start h)

/-- of a number above 0: what stands in 128 bits, and by which power of two -/
def sqO (a : F) : Bool := decide (((ex a : Int) - 1074 - nlz (mn a) - 64) % 2 ≠ 0)
def sqN (a : F) : Nat := if sqO a then divM a * 9223372036854775808 else divM a * 18446744073709551616
def sqE (a : F) : Int := if sqO a then (ex a : Int) - 1074 - nlz (mn a) - 63 else (ex a : Int) - 1074 - nlz (mn a) - 64
theorem sqE_even (a : F) : sqE a % 2 = 0 := by
  unfold sqE sqO
  split <;> rename_i c <;> simp at c <;> omega
/-- the root, rounded -/
def dSqrt (up : Bool) (a : F) : F × Int := rndG false (root64 (sqN a)) (decide (root64 (sqN a) * root64 (sqN a) ≠ sqN a)) (sqE a / 2) up
end Bu
namespace Rx
set_option linter.all false
open Go Go.RowKit

theorem runOps_then {P : Program} {E : ExtF} {call : CallF} (hP : Good P E) (hcall : CallOk P call) {ops : Array Oper} {Q : Exit → Act → World → Prop} {r : List Oper} : ∀ {l : List Oper} {s s' : St}, runOps P E call ops l s = some s' → ObsOk s'.ob →
    ∀ {m : Nat → Option Nat} {a : Act} {w : World}, StAt m s a w → (∀ m' a' w', StAt m' s' a' w' → Goes m w m' w' → wpList P ops Q r a' w') → wpList P ops Q (l ++ r) a w
  | [], s, s', h, ho, m, a, w, hs, hq => by
    simp only [runOps, Option.some.injEq] at h; subst h
    exact hq m a w hs (Goes.refl m w)
  | o :: l, s, s', h, ho, m, a, w, hs, hq => by
    unfold runOps at h
    split at h
    · rename_i s1 e hst
      have ho1 := (runOps_suf h).ok ho
      have hput : ∀ (x : Value), (a.put o.dst x).defers = [] := fun x => by cases o.dst <;> exact hs.df
      show wpList P ops Q (o :: (l ++ r)) a w
      unfold wpList
      unfold stepOp at hst
      split at hst
      · rename_i hw
        rw [if_pos (by rw [wantedS_ok hs.tm]; exact hw)]
        split at hst
        · rename_i e0 he
          split at hst
          · rename_i M' hM
            simp only [Option.some.injEq, Prod.mk.injEq] at hst
            obtain ⟨rfl, _⟩ := hst
            left
            have hgo := evOp_ok hP hcall he (ObsOk.left (b := s.ob) ho1) (m := m) (w := w) (ρv := a.eval) hs.mem.ok
              (fun p hp hle => by
                cases hmp : m p.1 with
                | none => rfl
                | some r0 => have := hs.mem.dom _ _ hmp; omega)
              (fun n hn b hb => hs.mem.blk n b hb) (fun y _ => oper_ok hs.tm y)
            refine hgo a _ Q rfl fun v w' hpost => ?_
            obtain ⟨m', hp⟩ := hpost
            obtain ⟨hmem, hgoes⟩ := mem_after hs.mem hp hM
            refine runOps_then hP hcall h ho (m := m') ⟨putT_ok (dens_ext hp.ext hs.tm) hp.val o.dst, hput v, hmem⟩ fun m'' a'' w'' hst' hg' => hq m'' a'' w'' hst' (hgoes.trans hg')
          · cases hst
        · cases hst
      · rename_i hw
        simp only [Option.some.injEq, Prod.mk.injEq] at hst
        obtain ⟨rfl, _⟩ := hst
        rw [if_neg (by rw [wantedS_ok hs.tm]; exact hw)]
        exact runOps_then hP hcall h ho (m := m) ⟨putT_ok hs.tm (undef_den m) o.dst, hput undef, hs.mem⟩ hq
    · cases h
/-- new blocks alone -/
theorem MemAt.later {m : Nat → Option Nat} {w w' : World} {M : List Blk} (hM : MemAt m w M) (hb : Below w.heap.size w w') : MemAt m w' M ∧ Goes m w m w' := by
  refine ⟨⟨⟨hM.ok.inj, fun n r hr => Nat.lt_of_lt_of_le (hM.ok.lt n r hr) hb.size⟩, ?_, hM.dom⟩, Ext.refl m, ⟨hb.os, hb.tape, hb.output, hb.size, fun r hr _ => hb.block r hr⟩, fun n r h => .inl h⟩
  intro n b hn
  obtain ⟨r, hr, hat⟩ := hM.blk n b hn
  exact ⟨r, hr, hat.ext (Ext.refl m) (hb.block r (hM.ok.lt n r hr))⟩
def fnR (v : Value) : Option (DataW Unit × List MemPlace) := match v with
  | .func (.func g) a b => if a.size = 0 ∧ b.size = 0 then some (.lit (.int .i64 (g : Int)), []) else none
  | .nilFunc => some (.lit (.bool false), [])
  | _ => none
theorem fnR_inv {v : Value} {g : Nat} {ps : List MemPlace} (h : fnR v = some (.lit (.int .i64 (g : Int)), ps)) : v = .func (.func g) #[] #[] := by
  unfold fnR at h
  split at h
  · rename_i f a b
    split at h
    · rename_i hs
      simp only [Option.some.injEq, Prod.mk.injEq, DataW.lit.injEq, Lit.int.injEq, Int.natCast_inj] at h
      obtain ⟨⟨_, rfl⟩, _⟩ := h
      rw [Array.eq_empty_of_size_eq_zero hs.1, Array.eq_empty_of_size_eq_zero hs.2]
    · cases h
  · simp at h
  · cases h
theorem wpList_insert_own {P : Program} (w : World) {ops : Array Oper} {rest : List Oper} {o : Oper} {a : Act} {Q : Exit → Act → World → Prop}
    (hg : o.guard = none) (hd : o.dst = none) (mm x v : Operand) (t : TypeId) (hop : o.op = Op.insert t mm x v)
    (k e : TypeId) (K : Go.Maps.Keyed P k) (ht : P.underlying t = some (.map k e)) (b n : Nat) (D : DataW Unit)
    (hm : a.eval mm = .map (some b)) (hown : w.ownsMap P k fnR b n D) (hn : n < maxLen) (key val : Value) (kl : Lit) (hx : a.eval x = key) (hv : a.eval v = val) (hkey : keyOf P k key = some kl)
    (d : DataW Unit) (ps : List MemPlace) (hval : fnR val = some (d, ps))
    (hK : ∀ w', w'.ownsMap P k fnR b (n + 1) (D.put kl d) → w.grownBy w' (some b) → wpList P ops Q rest a w') :
    wpList P ops Q (o :: rest) a w := by
  refine wpList_plain hg fun K' hK' => ?_
  obtain ⟨w', hrun, r1, r2⟩ := hown.update K ht hn hkey hval
  unfold Oper.wp
  simp [execOp, hop, hm, hx, hv, hrun, Result.andThen]
  have h := hK' (a.put o.dst undef) w'
  have e : a.put o.dst undef = a := by rw [hd]; rfl
  rw [e] at h
  show K' (a.put o.dst undef) w'
  rw [e]
  exact h (hK w' r1 r2)
theorem wpList_makeMap {P : Program} (w : World) {ops : Array Oper} {rest : List Oper} {o : Oper} {a : Act} {Q : Exit → Act → World → Prop} (hg : o.guard = none) (t : TypeId) (hop : o.op = Op.makeMap t none)
    (hK : wpList P ops Q rest (a.put o.dst (.map (some w.heap.size))) (w.alloc (.map #[] 0))) : wpList P ops Q (o :: rest) a w := by
  refine wpList_plain hg fun K' hK' => ?_
  unfold Oper.wp
  simp [execOp, hop, run_makeMap, Result.andThen]
  exact hK' _ _ hK
theorem wpList_lookup_fn {P : Program} (w : World) {ops : Array Oper} {rest : List Oper} {o : Oper} {a : Act} {Q : Exit → Act → World → Prop}
    (hg : o.guard = none) (mm x : Operand) (t : TypeId) (hop : o.op = Op.lookup t mm x false)
    (k e : TypeId) (K : Go.Maps.Keyed P k) (ht : P.underlying t = some (.map k e)) (hz : (zeroValue e).run P w = .ok .nilFunc w) (b n : Nat) (D : DataW Unit)
    (hm : a.eval mm = .map (some b)) (hown : w.ownsMap P k fnR b n D) (key : Value) (kl : Lit) (hx : a.eval x = key) (hkey : keyOf P k key = some kl) (g : Nat) (hat : D.atKey kl (.lit (.bool false)) = .lit (.int .i64 (g : Int)))
    (hK : wpList P ops Q rest (a.put o.dst (.func (.func g) #[] #[])) w) :
    wpList P ops Q (o :: rest) a w := by
  refine wpList_plain hg fun K' hK' => ?_
  obtain ⟨v, ps, hrun, hv⟩ := hown.lookup K ht hz (zd := .lit (.bool false)) (zp := []) rfl hkey
  rw [hat] at hv
  have e := fnR_inv hv
  subst e
  unfold Oper.wp
  simp [execOp, hop, hm, hx, hrun, Result.andThen]
  exact hK' _ _ hK
/-- the table of four functions -/
def tabD (f1 f2 f3 f4 : Nat) : DataW Unit := ((((DataW.map []).put (.int .u8 1) (.lit (.int .i64 (f1 : Int)))).put (.int .u8 2) (.lit (.int .i64 (f2 : Int)))).put (.int .u8 3) (.lit (.int .i64 (f3 : Int)))).put (.int .u8 4) (.lit (.int .i64 (f4 : Int)))
theorem tab_at (f1 f2 f3 f4 : Nat) : (tabD f1 f2 f3 f4).atKey (.int .u8 1) (.lit (.bool false)) = .lit (.int .i64 (f1 : Int)) ∧ (tabD f1 f2 f3 f4).atKey (.int .u8 2) (.lit (.bool false)) = .lit (.int .i64 (f2 : Int)) ∧ (tabD f1 f2 f3 f4).atKey (.int .u8 3) (.lit (.bool false)) = .lit (.int .i64 (f3 : Int)) ∧ (tabD f1 f2 f3 f4).atKey (.int .u8 4) (.lit (.bool false)) = .lit (.int .i64 (f4 : Int)) := ⟨rfl, rfl, rfl, rfl⟩
theorem tab_made {P : Program} {ops : Array Oper} {rest : List Oper} {o o1 o2 o3 o4 : Oper} {Q : Exit → Act → World → Prop} {t k e : TypeId} {d : Tmp} {f1 f2 f3 f4 : Nat} (hk : P.underlying k = some (.int .u8)) (ht : P.underlying t = some (.map k e))
    (g0 : o.guard = none) (g1 : o1.guard = none) (g2 : o2.guard = none) (g3 : o3.guard = none) (g4 : o4.guard = none) (h0 : o.op = Op.makeMap t none) (hd : o.dst = some d)
    (d1 : o1.dst = none) (d2 : o2.dst = none) (d3 : o3.dst = none) (d4 : o4.dst = none)
    (h1 : o1.op = Op.insert t (.tmp d) (.const (.int .u8 1)) (.func f1)) (h2 : o2.op = Op.insert t (.tmp d) (.const (.int .u8 2)) (.func f2)) (h3 : o3.op = Op.insert t (.tmp d) (.const (.int .u8 3)) (.func f3)) (h4 : o4.op = Op.insert t (.tmp d) (.const (.int .u8 4)) (.func f4))
    {m : Nat → Option Nat} {s : St} {a : Act} {w : World} (hlt : d < a.tmps.size) (hs : StAt m s a w)
    (hK : ∀ r a' w', w'.ownsMap P k fnR r 4 (tabD f1 f2 f3 f4) → Below w.heap.size w w' → w.heap.size ≤ r → StAt m ⟨putT (some d) (.o (.map (some r))) s.T, s.M, s.ds, s.ob⟩ a' w' → Goes m w m w' → wpList P ops Q rest a' w') :
    wpList P ops Q (o :: o1 :: o2 :: o3 :: o4 :: rest) a w := by
  have K := Go.Maps.int_keyed hk
  refine wpList_makeMap w g0 t h0 ?_
  have hev : (a.put o.dst (.map (some w.heap.size))).eval (.tmp d) = .map (some w.heap.size) := by
    rw [hd]; simp [Act.put, Act.eval, hlt]
  have kk : ∀ {n : Int}, (Lit.int .u8 n).wf = true → keyOf P k (.int .u8 n) = some (.int .u8 n) := fun hw => Go.Maps.keyOf_int_mk hk hw
  have big : 4 < maxLen := by decide
  refine wpList_insert_own _ g1 d1 _ _ _ t h1 k e K ht _ _ _ hev (World.ownsMap_made w P k fnR) (by omega) _ _ _ rfl rfl (kk (by decide)) _ _ rfl fun w1 own1 gr1 => ?_
  refine wpList_insert_own _ g2 d2 _ _ _ t h2 k e K ht _ _ _ hev own1 (by omega) _ _ _ rfl rfl (kk (by decide)) _ _ rfl fun w2 own2 gr2 => ?_
  refine wpList_insert_own _ g3 d3 _ _ _ t h3 k e K ht _ _ _ hev own2 (by omega) _ _ _ rfl rfl (kk (by decide)) _ _ rfl fun w3 own3 gr3 => ?_
  refine wpList_insert_own _ g4 d4 _ _ _ t h4 k e K ht _ _ _ hev own3 (by omega) _ _ _ rfl rfl (kk (by decide)) _ _ rfl fun w4 own4 gr4 => ?_
  have b0 : Below w.heap.size w (w.alloc (.map #[] 0)) := (Below.refl _ w).alloc (Nat.le_refl _) _
  have st : ∀ {A B : World}, Below w.heap.size w A → A.grownBy B (some w.heap.size) → Below w.heap.size w B := fun h g => h.grown g h.size (fun k e => by cases e; exact Nat.le_refl _)
  have b4 := st (st (st (st b0 gr1) gr2) gr3) gr4
  obtain ⟨mm, go⟩ := hs.mem.later b4
  refine hK w.heap.size _ w4 own4 b4 (Nat.le_refl _) ⟨?_, ?_, mm⟩ go
  · rw [hd]; exact putT_ok hs.tm (x := .o (.map (some w.heap.size))) (by simp [den]) (some d)
  · rw [hd]; exact hs.df
end Rx
namespace Go.Proofs.YtlhlcefkmhhmjaaGreat
set_option linter.all false
open Go Go.RowKit Go.Shelf

attribute [local go_sem] Oper.semAt_some
@[local go_sem] theorem run_store_float_m {P : Program} {w : World} {a : Addr} {m : Mode} (k : FloatKind) (b : Nat) : (store a (.float k b) m).run P w = stored P w a (.float k b) m := run_store P w a _ m rfl

/-- a part of a direction: its ends, its least number: as words -/
abbrev Pt3 := Nat × Nat × Nat
abbrev ptE {p : Pt3 → Prop} (x : {q : Pt3 // p q}) : Array Value := #[.agg #[.float .f64 x.1.1, .float .f64 x.1.2.1], .float .f64 x.1.2.2]
/-- what a round keeps: all cells but those of two blocks -/
structure KpL (b1 b2 : Nat) (A B : World) : Prop where
  size : A.heap.size ≤ B.heap.size
  keep : ∀ r o, r ≠ b1 → r ≠ b2 → A.heap[r]? = some o → o.isCells = true → B.heap[r]? = some o
theorem KpL.cell {b1 b2 : Nat} {A B : World} (h : KpL b1 b2 A B) {r i : Nat} {v : Value} (h1 : r ≠ b1) (h2 : r ≠ b2) (hc : A.cell? ⟨r, i, none⟩ = some v) : B.cell? ⟨r, i, none⟩ = some v := by
  obtain ⟨o, ho, hk⟩ := cells_of_cell hc
  have := h.keep r o h1 h2 ho hk
  exact (World.cell?_of_block (w := A) (w' := B) (a := ⟨r, i, none⟩) (by show B.heap[r]? = A.heap[r]?; rw [this, ho])).trans hc
theorem KpL.trans {b1 b2 : Nat} {A B C : World} (h : KpL b1 b2 A B) (k : KpL b1 b2 B C) : KpL b1 b2 A C := ⟨Nat.le_trans h.size k.size, fun r o h1 h2 h3 h4 => k.keep r o h1 h2 (h.keep r o h1 h2 h3 h4) h4⟩
theorem KpL.put {b1 b2 : Nat} (W : World) (l : Nat) (o o' : Obj) (h : W.heap[l]? = some o) (hc : o.isCells = false) : KpL b1 b2 W (W.putObj l o') := by
  have g := grownBy_putObj' W l o'
  refine ⟨g.size, fun r q _ _ hr hq => ?_⟩
  have hl : r ≠ l := by rintro rfl; rw [h] at hr; cases hr; rw [hc] at hq; cases hq
  rw [g.block r (Array.getElem?_eq_some_iff.1 hr).1 (by simp [hl])]; exact hr
set_option maxRecDepth 100000 in
set_option maxHeartbeats 2000000 in
theorem parts1_in {p : Pt3 → Prop} (F : Fence) (n : Nat) (hf : F.fn 123) (hro : F.round = none) (hn : 1 ≤ n) (l Bs b cap b1 b2 : Nat) (e : Nat → {q : Pt3 // p q})
    (g0 : (e 0).1.2.2 = 13830554455654793216) (g1 : (e 1).1.2.2 = 13830554455654793216) (g2 : (e 2).1.2.2 = 0) (g3 : (e 3).1.2.2 = 13830554455654793216) (g4 : (e 4).1.2.2 = 13830554455654793216) (g5 : (e 5).1.2.2 = 0)
    (J Jx : List {q : Pt3 // p q} → World → Prop) (W : World) (hJ : AbidesFrom W.heap.size J)
    (hY : ∀ pre x W1, J pre W1 → pre.length < 6 → YieldAt F (n - 1) Tryz.prog l (ptE x) W1 fun e W' =>
      (e = .returned (.bool true) ∧ J (pre ++ [x]) W' ∧ KpL b1 b2 W1 W') ∨ (e = .returned (.bool false) ∧ Jx (pre ++ [x]) W'))
    (hb1 : b ≠ b1) (hb2 : b ≠ b2) (h1 : b1 < W.heap.size) (h2 : b2 < W.heap.size)
    (hBs : W.cell? ⟨Bs, 0, none⟩ = some (.slice (some ⟨b, 0, none⟩) 2 cap))
    (hc : ∀ j, j < 6 → W.cell? ⟨b, 2 * j, none⟩ = some (.float .f64 (e j).1.1) ∧ W.cell? ⟨b, 2 * j + 1, none⟩ = some (.float .f64 (e j).1.2.1)) (h0 : J [] W) :
    CallsIn F n Tryz.prog 123 #[.func (.yield l) #[] #[], .pointer (some ⟨Bs, 0, none⟩)] W fun r W' => (∃ v, r = .returned v) ∧ ((∃ xs, True ∧ J xs W') ∨ (∃ pre, True ∧ Jx pre W')) := by
  refine callsIn_of_wp Tryz.func123 rfl hf ?_ hro
  simp only [Tryz.ntmps123, List.size_toArray, List.length_cons, List.length_nil, Nat.reduceAdd, Nat.reduceSub, Array.replicate_succ, Array.replicate_zero, List.push_toArray, List.append_toArray, List.nil_append, List.cons_append]
  gi_wp2
  gi_loopw [7] (fun i wr => ∃ k : Nat, k ≤ 2 ∧ i = .int .i64 k ∧ J ((List.range (3 * k)).map e) wr ∧ (∀ j, j < 6 → wr.cell? ⟨b, 2 * j, none⟩ = some (.float .f64 (e j).1.1) ∧ wr.cell? ⟨b, 2 * j + 1, none⟩ = some (.float .f64 (e j).1.2.1)) ∧ W.heap.size ≤ wr.heap.size)
    (fun i _ => 2 - (intOf i).toNat)
  case atStart => exact ⟨0, by omega, rfl, h0, hc, Nat.le_refl _⟩
  case round =>
    obtain ⟨k, hk, rfl, hJs, hcs, hsz⟩ := hrel
    obtain ⟨c00, c01⟩ := hcs 0 (by omega)
    obtain ⟨c10, c11⟩ := hcs 1 (by omega)
    obtain ⟨c20, c21⟩ := hcs 2 (by omega)
    obtain ⟨c30, c31⟩ := hcs 3 (by omega)
    obtain ⟨c40, c41⟩ := hcs 4 (by omega)
    obtain ⟨c50, c51⟩ := hcs 5 (by omega)
    simp only [Nat.mul_zero, Nat.mul_one, Nat.zero_add, Nat.reduceMul, Nat.reduceAdd] at c00 c01 c10 c11 c20 c21 c30 c31 c40 c41 c50 c51
    have hk' : k = 0 ∨ k = 1 ∨ k = 2 := by omega
    rcases hk' with rfl | rfl | rfl
    · have hV : ∃ V, V = wr.alloc (.cells #[.float .f64 (e 0).1.1, .float .f64 (e 0).1.2.1, .float .f64 (e 1).1.1, .float .f64 (e 1).1.2.1, .float .f64 (e 2).1.1, .float .f64 (e 2).1.2.1] 33) := ⟨_, rfl⟩
      obtain ⟨V, hV⟩ := hV
      have hJ0 : J [] V := by rw [hV]; exact hJ _ wr _ none hJs (World.grownBy_alloc wr _ none) (fun r e => by cases e)
      have sV : V.heap.size = wr.heap.size + 1 := by rw [hV]; exact World.size_alloc _ _
      have d10 : V.cell? ⟨wr.heap.size, 2, none⟩ = some (.float .f64 (e 1).1.1) := by rw [hV]; simp
      have d11 : V.cell? ⟨wr.heap.size, 3, none⟩ = some (.float .f64 (e 1).1.2.1) := by rw [hV]; simp
      have d20 : V.cell? ⟨wr.heap.size, 4, none⟩ = some (.float .f64 (e 2).1.1) := by rw [hV]; simp
      have d21 : V.cell? ⟨wr.heap.size, 5, none⟩ = some (.float .f64 (e 2).1.2.1) := by rw [hV]; simp
      have hcV : ∀ j, j < 6 → V.cell? ⟨b, 2 * j, none⟩ = some (.float .f64 (e j).1.1) ∧ V.cell? ⟨b, 2 * j + 1, none⟩ = some (.float .f64 (e j).1.2.1) := by
        intro j hj; rw [hV]; exact ⟨cell_kept (hcs j hj).1 (World.grownBy_alloc wr _ none) (fun r e => by cases e), cell_kept (hcs j hj).2 (World.grownBy_alloc wr _ none) (fun r e => by cases e)⟩
      obtain ⟨f1, t1, a1, y1, hy1, hR1⟩ := hY _ (e 0) V hJ0 (by simp)
      dsimp only [ptE] at hy1
      rw [g0, hV] at hy1
      gi_wp2
      rw [← hV]
      refine hR1.mono ?_
      rintro r W1 (⟨rfl, hJ1, hk1⟩ | ⟨rfl, hx1⟩)
      · have m10 := hk1.cell (r := wr.heap.size) (by omega) (by omega) d10
        have m11 := hk1.cell (r := wr.heap.size) (by omega) (by omega) d11
        obtain ⟨f2, t2, a2, y2, hy2, hR2⟩ := hY _ (e 1) W1 hJ1 (by simp)
        dsimp only [ptE] at hy2
        rw [g1] at hy2
        gi_wp2
        refine hR2.mono ?_
        rintro r W2 (⟨rfl, hJ2, hk2⟩ | ⟨rfl, hx2⟩)
        · have hk12 := hk1.trans hk2
          have m20 := hk12.cell (r := wr.heap.size) (by omega) (by omega) d20
          have m21 := hk12.cell (r := wr.heap.size) (by omega) (by omega) d21
          obtain ⟨f3, t3, a3, y3, hy3, hR3⟩ := hY _ (e 2) W2 hJ2 (by simp)
          dsimp only [ptE] at hy3
          rw [g2] at hy3
          gi_wp2
          refine hR3.mono ?_
          rintro r W3 (⟨rfl, hJ3, hk3⟩ | ⟨rfl, hx3⟩)
          · have hk13 := hk12.trans hk3
            have hs3 := hk13.size
            gi_wp2
            go_roundw
            case rel => exact ⟨1, by omega, by simp, hJ3, fun j hj => ⟨hk13.cell hb1 hb2 (hcV j hj).1, hk13.cell hb1 hb2 (hcV j hj).2⟩, by omega⟩
            case measure => simp [intOf]
          · gi_wp2
            refine bodyPost_ret (results_none rfl _ _ _) rfl ?_
            exact ⟨⟨_, rfl⟩, .inr ⟨_, trivial, hx3⟩⟩
        · gi_wp2
          refine ⟨fun _ h => (by cases h), ?_⟩
          gi_wp2
          refine bodyPost_ret (results_none rfl _ _ _) rfl ?_
          exact ⟨⟨_, rfl⟩, .inr ⟨_, trivial, hx2⟩⟩
      · gi_wp2
        refine ⟨fun _ h => (by cases h), ?_⟩
        gi_wp2
        refine ⟨fun _ h => (by cases h), ?_⟩
        gi_wp2
        refine bodyPost_ret (results_none rfl _ _ _) rfl ?_
        exact ⟨⟨_, rfl⟩, .inr ⟨_, trivial, hx1⟩⟩
    · have hV : ∃ V, V = wr.alloc (.cells #[.float .f64 (e 3).1.1, .float .f64 (e 3).1.2.1, .float .f64 (e 4).1.1, .float .f64 (e 4).1.2.1, .float .f64 (e 5).1.1, .float .f64 (e 5).1.2.1] 33) := ⟨_, rfl⟩
      obtain ⟨V, hV⟩ := hV
      have hJ0 : J [e 0, e 1, e 2] V := by rw [hV]; exact hJ _ wr _ none hJs (World.grownBy_alloc wr _ none) (fun r e => by cases e)
      have sV : V.heap.size = wr.heap.size + 1 := by rw [hV]; exact World.size_alloc _ _
      have d10 : V.cell? ⟨wr.heap.size, 2, none⟩ = some (.float .f64 (e 4).1.1) := by rw [hV]; simp
      have d11 : V.cell? ⟨wr.heap.size, 3, none⟩ = some (.float .f64 (e 4).1.2.1) := by rw [hV]; simp
      have d20 : V.cell? ⟨wr.heap.size, 4, none⟩ = some (.float .f64 (e 5).1.1) := by rw [hV]; simp
      have d21 : V.cell? ⟨wr.heap.size, 5, none⟩ = some (.float .f64 (e 5).1.2.1) := by rw [hV]; simp
      have hcV : ∀ j, j < 6 → V.cell? ⟨b, 2 * j, none⟩ = some (.float .f64 (e j).1.1) ∧ V.cell? ⟨b, 2 * j + 1, none⟩ = some (.float .f64 (e j).1.2.1) := by
        intro j hj; rw [hV]; exact ⟨cell_kept (hcs j hj).1 (World.grownBy_alloc wr _ none) (fun r e => by cases e), cell_kept (hcs j hj).2 (World.grownBy_alloc wr _ none) (fun r e => by cases e)⟩
      obtain ⟨f1, t1, a1, y1, hy1, hR1⟩ := hY _ (e 3) V hJ0 (by simp)
      dsimp only [ptE] at hy1
      rw [g3, hV] at hy1
      gi_wp2
      rw [← hV]
      refine hR1.mono ?_
      rintro r W1 (⟨rfl, hJ1, hk1⟩ | ⟨rfl, hx1⟩)
      · have m10 := hk1.cell (r := wr.heap.size) (by omega) (by omega) d10
        have m11 := hk1.cell (r := wr.heap.size) (by omega) (by omega) d11
        obtain ⟨f2, t2, a2, y2, hy2, hR2⟩ := hY _ (e 4) W1 hJ1 (by simp)
        dsimp only [ptE] at hy2
        rw [g4] at hy2
        gi_wp2
        refine hR2.mono ?_
        rintro r W2 (⟨rfl, hJ2, hk2⟩ | ⟨rfl, hx2⟩)
        · have hk12 := hk1.trans hk2
          have m20 := hk12.cell (r := wr.heap.size) (by omega) (by omega) d20
          have m21 := hk12.cell (r := wr.heap.size) (by omega) (by omega) d21
          obtain ⟨f3, t3, a3, y3, hy3, hR3⟩ := hY _ (e 5) W2 hJ2 (by simp)
          dsimp only [ptE] at hy3
          rw [g5] at hy3
          gi_wp2
          refine hR3.mono ?_
          rintro r W3 (⟨rfl, hJ3, hk3⟩ | ⟨rfl, hx3⟩)
          · have hk13 := hk12.trans hk3
            have hs3 := hk13.size
            gi_wp2
            go_roundw
            case rel => exact ⟨2, by omega, by simp, hJ3, fun j hj => ⟨hk13.cell hb1 hb2 (hcV j hj).1, hk13.cell hb1 hb2 (hcV j hj).2⟩, by omega⟩
            case measure => simp [intOf]
          · gi_wp2
            refine bodyPost_ret (results_none rfl _ _ _) rfl ?_
            exact ⟨⟨_, rfl⟩, .inr ⟨_, trivial, hx3⟩⟩
        · gi_wp2
          refine ⟨fun _ h => (by cases h), ?_⟩
          gi_wp2
          refine bodyPost_ret (results_none rfl _ _ _) rfl ?_
          exact ⟨⟨_, rfl⟩, .inr ⟨_, trivial, hx2⟩⟩
      · gi_wp2
        refine ⟨fun _ h => (by cases h), ?_⟩
        gi_wp2
        refine ⟨fun _ h => (by cases h), ?_⟩
        gi_wp2
        refine bodyPost_ret (results_none rfl _ _ _) rfl ?_
        exact ⟨⟨_, rfl⟩, .inr ⟨_, trivial, hx1⟩⟩
    · gi_wp2
      go_end0
      exact ⟨⟨_, rfl⟩, .inl ⟨_, trivial, hJs⟩⟩
end Go.Proofs.YtlhlcefkmhhmjaaGreat
