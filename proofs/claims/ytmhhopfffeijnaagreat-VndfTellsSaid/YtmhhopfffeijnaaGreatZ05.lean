/- Known functions, in plain words: of directed rounding. Words added, subtracted: plain. Known functions of package dir, with names for what they compute: so nothing is computed that need not be. Quotients, rounded: plain. Roots, rounded: plain. -/
import Derived.Test.YtmhhopfffeijnaaGreatZ03
import Derived.Test.YtmhhopfffeijnaaGreatZ01
import Derived.Laws.BitsLemmas
namespace Rx
set_option linter.all false
open Go Bu

def oRight : List SV → Dec → Option (SV × Dec × Obs)
  | [.fl _], ds => some (.b true, ds, [])
  | [.f w], ds => match takeB ds (rightB w) with
    | some (true, ds', ob) => some (.b true, ds', ob)
    | some (false, ds', ob) => some (.b false, ds', (Nat.blt w 18446744073709551616, true) :: ob)
    | none => none
  | _, _ => none
end Rx
namespace Rx
set_option linter.all false
open Go Bu
/-- a number by a power of two -/
def ldF (x : F) (n : Int) : F := if 0 ≤ n then F.of (flZ (x.z * ((2 ^ n.toNat : Nat) : Int))) else F.of (flZ (x.z / ((2 ^ (-n).toNat : Nat) : Int)))
theorem ldF_eq {x y : F} {n : Int} (h : Sc x y n) : ldF x n = y := by
  unfold Sc at h
  unfold ldF
  by_cases hn : 0 ≤ n
  · rw [if_pos hn, ← h, show (-n).toNat = 0 from by omega]
    simp only [Nat.pow_zero, Int.natCast_one, Int.mul_one]
    unfold F.z
    rw [flZ_nvZ, F.of_self]
  · rw [if_neg hn]
    rw [show n.toNat = 0 from by omega] at h
    simp only [Nat.pow_zero, Int.natCast_one, Int.mul_one] at h
    rw [← h, Int.mul_ediv_cancel _ (by have := Nat.two_pow_pos (-n).toNat; omega)]
    unfold F.z
    rw [flZ_nvZ, F.of_self]
instance (x y : F) (n : Int) : Decidable (Sc x y n) := by unfold Sc; infer_instance
def oLdexp : List SV → Dec → Option (SV × Dec × Obs)
  | [.fl x, n], ds => match intS n with
    | some (.i64, k) => some (.fl (ldF x k), ds, [(decide (Sc x (ldF x k) k), true)])
    | _ => none
  | _, _ => none
/-- a function that answers always the same -/
def oConst (x : SV) : List SV → Dec → Option (SV × Dec × Obs)
  | [], ds => some (x, ds, [])
  | _, _ => none
theorem zero_k' : (toF 0).k = 0 := by decide +kernel
def oFb : List SV → Option (SV × Obs)
  | [.f x] => some (.si .u64 x, [])
  | [.fl x] => some (.si .u64 x.b, [])
  | _ => none
def oFf : List SV → Option (SV × Obs)
  | [.si .u64 n] => some (.f n.toNat, [])
  | [.i .u64 n] => some (.f n.toNat, [])
  | _ => none
def u64B (n : Int) : Bool := decide (0 ≤ n ∧ n ≤ 18446744073709551615)
def oAdd64 : List SV → Option (SV × Obs)
  | [x, y, z] => match intS x, intS y, intS z with
    | some (.u64, a), some (.u64, b), some (.u64, c) => some (.tup [.si .u64 ((a + b + c) % 18446744073709551616), .si .u64 ((a + b + c) / 18446744073709551616)], [(decide (0 ≤ a ∧ 0 ≤ b ∧ 0 ≤ c ∧ c ≤ 1), true)])
    | _, _, _ => none
  | _ => none
def oSub64 : List SV → Option (SV × Obs)
  | [x, y, z] => match intS x, intS y, intS z with
    | some (.u64, a), some (.u64, b), some (.u64, c) => some (.tup [.si .u64 ((a - b - c) % 18446744073709551616), .si .u64 (if a < b + c then 1 else 0)], [(decide (0 ≤ a ∧ 0 ≤ b ∧ 0 ≤ c ∧ c ≤ 1 ∧ a ≤ 18446744073709551615 ∧ b ≤ 18446744073709551615), true)])
    | _, _, _ => none
  | _ => none
end Rx
namespace Bu
set_option linter.all false

theorem W128_q : W128 = 18446744073709551616 * 18446744073709551616 := by decide
theorem wn_same {m s : Nat} (h : m * 18446744073709551616 + s < W128) : wn (((m : Int) + hi s + (0 + lo s + 0) / 18446744073709551616) % 18446744073709551616) ((0 + lo s + 0) % 18446744073709551616) = m * 18446744073709551616 + s := by
  rw [W128_q] at h
  unfold wn hi lo
  omega
theorem bor_yes {x y : Int} (h : x < y) : (if x < y then (1 : Int) else 0) = 1 := if_pos h
theorem bor_no {x y : Int} (h : ¬ x < y) : (if x < y then (1 : Int) else 0) = 0 := if_neg h
theorem wn_opp {m s : Nat} (h : m * 18446744073709551616 < W128) (hs : s ≤ m * 18446744073709551616) :
    wn (((m : Int) - hi s - (if (0 : Int) < lo s + 0 then 1 else 0)) % 18446744073709551616) ((0 - lo s - 0) % 18446744073709551616) = m * 18446744073709551616 - s := by
  rw [W128_q] at h
  by_cases c : (0 : Int) < lo s + 0
  · rw [bor_yes c]
    unfold wn hi lo at *
    omega
  · rw [bor_no c]
    unfold wn hi lo at *
    omega
theorem wn_one {h l : Int} {V : Nat} (h0 : 0 ≤ h) (h1 : h < 18446744073709551616) (l0 : 0 ≤ l) (l1 : l < 18446744073709551616) (hv : wn h l = V) (hp : 1 ≤ V) :
    wn ((h - 0 - (if l < 1 + 0 then 1 else 0)) % 18446744073709551616) ((l - 1 - 0) % 18446744073709551616) = V - 1 := by
  subst hv
  obtain ⟨a, rfl⟩ := Int.eq_ofNat_of_zero_le h0
  obtain ⟨b, rfl⟩ := Int.eq_ofNat_of_zero_le l0
  unfold wn at hp ⊢
  by_cases c : (b : Int) < 1 + 0
  · rw [bor_yes c]
    have e1 : ((b : Int) - 1 - 0) % 18446744073709551616 = 18446744073709551615 := by omega
    have e2 : ((a : Int) - 0 - 1) % 18446744073709551616 = (a : Int) - 1 := by omega
    rw [e1, e2]
    omega
  · rw [bor_no c]
    have e1 : ((b : Int) - 1 - 0) % 18446744073709551616 = (b : Int) - 1 := by omega
    have e2 : ((a : Int) - 0 - 0) % 18446744073709551616 = (a : Int) := by omega
    rw [e1, e2]
    omega
open Go Rx

def dI (a b : F) : Int := IntKind.i64.wrap (((ex a : Int) - 1074) - ((ex b : Int) - 1074))
def sI (a b : F) : Nat := wn (mn b) 0 / 2 ^ (dI a b).toNat
def eI (a : F) : Int := IntKind.i64.wrap (((ex a : Int) - 1074) - 64)

theorem wrap_small {n : Int} (h : -9223372036854775808 ≤ n) (h2 : n < 9223372036854775808) : IntKind.i64.wrap n = n := by rw [IntKind.wrap_i64]; omega
theorem eI_eq (a : F) : eI a = (ex a : Int) - 1074 - 64 := by
  have h1 := ex_le a
  exact wrap_small (by omega) (by omega)
theorem dI_eq {a b : F} (hle : ex b ≤ ex a) : dI a b = ((ex a - ex b : Nat) : Int) := by
  have h1 := ex_le a
  have h2 := ex_le b
  have : ((ex a - ex b : Nat) : Int) = ((ex a : Int) - 1074) - ((ex b : Int) - 1074) := by omega
  rw [this]
  exact wrap_small (by omega) (by omega)
theorem wn_zero (n : Nat) : wn n 0 = n * 18446744073709551616 := by
  unfold wn
  rw [Int.toNat_natCast, Int.toNat_zero, Nat.add_zero]
theorem sI_eq {a b : F} (hle : ex b ≤ ex a) : sI a b = smallN (mn b) (ex a - ex b) := by
  unfold sI smallN
  rw [dI_eq hle, wn_zero, Int.toNat_natCast]
theorem mI_eq {a b : F} (hle : ex b ≤ ex a) : decide (wn (mn b) 0 % 2 ^ (dI a b).toNat ≠ 0) = moreN (mn b) (ex a - ex b) := by
  unfold moreN
  rw [dI_eq hle, wn_zero, Int.toNat_natCast]

def mI (a b : F) (d : Bool) : Obs := [(u64B (mn b), true), (u64B 0, true), (decide (0 ≤ dI a b), true), (decide (wn (mn b) 0 % 2 ^ (dI a b).toNat ≠ 0), d)]
def hS (a b : F) : Int := ((mn a : Int) + hi (sI a b) + (0 + lo (sI a b) + 0) / 18446744073709551616) % 18446744073709551616
def lS (a b : F) : Int := (0 + lo (sI a b) + 0) % 18446744073709551616
def hO (a b : F) : Int := ((mn a : Int) - hi (sI a b) - (if (0 : Int) < lo (sI a b) + 0 then 1 else 0)) % 18446744073709551616
def lO (a b : F) : Int := (0 - lo (sI a b) - 0) % 18446744073709551616
def hM (a b : F) : Int := (hO a b - 0 - (if lO a b < 1 + 0 then 1 else 0)) % 18446744073709551616
def lM (a b : F) : Int := (lO a b - 1 - 0) % 18446744073709551616
/-- what stands in both words -/
def hA (same more : Bool) (a b : F) : Int := if same then hS a b else if more then hM a b else hO a b
def lA (same more : Bool) (a b : F) : Int := if same then lS a b else if more then lM a b else lO a b
def w1 (a b : F) : Obs := [(u64B (mn a), true), (u64B 0, true), (u64B (hi (sI a b)), true), (u64B (lo (sI a b)), true)]
def w2 (a b : F) : Obs := [(u64B (hO a b), true), (u64B (lO a b), true), (u64B 0, true), (u64B 1, true)]
def rd (h l e : Int) : Obs := [(u64B h, true), (u64B l, true), (decide (-5000 ≤ e ∧ e ≤ 5000), true)]
def wAll (same more : Bool) (a b : F) : Obs := if same then w1 a b else if more then w2 a b ++ w1 a b else w1 a b
def obA (same more : Bool) (a b : F) : Obs := rd (hA same more a b) (lA same more a b) (eI a) ++ wAll same more a b ++ mI a b more

theorem u64_mk {n : Int} (h0 : 0 ≤ n) (h1 : n ≤ 18446744073709551615) : u64B n = true := decide_eq_true ⟨h0, h1⟩
theorem mod_u64 (n : Int) : u64B (n % 18446744073709551616) = true := u64_mk (by omega) (by omega)
theorem hO_u (a b : F) : u64B (hO a b) = true := mod_u64 _
theorem lO_u (a b : F) : u64B (lO a b) = true := mod_u64 _
theorem hO_r (a b : F) : 0 ≤ hO a b ∧ hO a b < 18446744073709551616 := by unfold hO; omega
theorem lO_r (a b : F) : 0 ≤ lO a b ∧ lO a b < 18446744073709551616 := by unfold lO; omega
theorem hA_u (s m : Bool) (a b : F) : u64B (hA s m a b) = true := by
  unfold hA hS hM
  split
  · exact mod_u64 _
  · split
    · exact mod_u64 _
    · exact hO_u a b
theorem lA_u (s m : Bool) (a b : F) : u64B (lA s m a b) = true := by
  unfold lA lS lM
  split
  · exact mod_u64 _
  · split
    · exact mod_u64 _
    · exact lO_u a b
theorem mn_u64 (x : F) : u64B (mn x) = true := u64_mk (by omega) (by have := mn_lt x; omega)
theorem u64_0 : u64B 0 = true := by decide
theorem u64_1 : u64B 1 = true := by decide

theorem obsB_app (a b : Obs) : obsB (a ++ b) = (obsB a && obsB b) := List.all_append
theorem obsB_cons (c d : Bool) (r : Obs) : obsB ((c, d) :: r) = ((c == d) && obsB r) := rfl
theorem obsB_nil : obsB [] = true := rfl
theorem obsB_yes {c d : Bool} {r : Obs} (h : c = d) (hr : obsB r = true) : obsB ((c, d) :: r) = true := by rw [obsB_cons, h, hr, Bool.and_true, beq_self_eq_true]

theorem hv_add {a b : F} (h : Fst a b) : wn (hA (sg a == sg b) (moreN (mn b) (ex a - ex b)) a b) (lA (sg a == sg b) (moreN (mn b) (ex a - ex b)) a b) = addN (sg a == sg b) (mn a) (mn b) (ex a - ex b) := by
  have hle : ex b ≤ ex a := by unfold Fst at h; omega
  have h5 := small_le (al_of h)
  have h6 := (wn_add true (al_of h)).2
  have hO1 := hO_r a b
  have lO1 := lO_r a b
  have h7 : smallN (mn b) (ex a - ex b) ≤ mn a * 18446744073709551616 := Nat.le_trans (Nat.le_add_right _ _) h5
  have h8 : mn a * 18446744073709551616 < W128 := Nat.lt_of_le_of_lt (Nat.le_add_right _ _) h6
  have hop : wn (hO a b) (lO a b) = mn a * 18446744073709551616 - smallN (mn b) (ex a - ex b) := by
    unfold hO lO
    rw [sI_eq hle]
    exact wn_opp h8 h7
  unfold hA lA addN
  cases (sg a == sg b) with
  | true =>
    rw [if_pos rfl, if_pos rfl, if_pos rfl]
    unfold hS lS
    rw [sI_eq hle]
    exact wn_same h6
  | false =>
    rw [if_neg Bool.false_ne_true, if_neg Bool.false_ne_true, if_neg Bool.false_ne_true]
    cases hm : moreN (mn b) (ex a - ex b) with
    | false => rw [if_neg Bool.false_ne_true, if_neg Bool.false_ne_true, if_neg Bool.false_ne_true, Nat.sub_zero]; exact hop
    | true =>
      rw [hm, if_pos rfl] at h5
      rw [if_pos rfl, if_pos rfl, if_pos rfl]
      exact wn_one hO1.1 hO1.2 lO1.1 lO1.2 hop (Nat.le_sub_of_add_le (by rw [Nat.add_comm]; exact h5))
theorem add_val {a b : F} (up : Bool) (h : Fst a b) :
    rndG (sg a) (wn (hA (sg a == sg b) (moreN (mn b) (ex a - ex b)) a b) (lA (sg a == sg b) (moreN (mn b) (ex a - ex b)) a b)) (moreN (mn b) (ex a - ex b)) (eI a) up = dAdd up a b := by
  rw [hv_add h, eI_eq, rndG_dAdd up h]
theorem er_ok (a : F) : decide (-5000 ≤ eI a ∧ eI a ≤ 5000) = true := by
  have h1 := ex_le a
  have h2 := eI_eq a
  exact decide_eq_true (by omega)
theorem d0_ok {a b : F} (h : ex b ≤ ex a) : decide (0 ≤ dI a b) = true := by
  have h2 := dI_eq h
  exact decide_eq_true (by omega)
theorem w1_ok {a b : F} (h : Fst a b) : obsB (w1 a b) = true := by
  have hle : ex b ≤ ex a := by unfold Fst at h; omega
  have hs : u64B (hi (sI a b)) = true := by
    refine u64_mk (hi_nonneg _) (hi_le _ ?_)
    rw [sI_eq hle]
    exact Nat.lt_of_le_of_lt (Nat.le_add_left _ _) (wn_add true (al_of h)).2
  exact obsB_yes (mn_u64 a) (obsB_yes u64_0 (obsB_yes hs (obsB_yes (u64_mk (lo_nonneg _) (lo_le _)) obsB_nil)))
theorem w2_ok (a b : F) : obsB (w2 a b) = true := obsB_yes (hO_u a b) (obsB_yes (lO_u a b) (obsB_yes u64_0 (obsB_yes u64_1 obsB_nil)))
theorem mI_ok {a b : F} (hle : ex b ≤ ex a) : obsB (mI a b (moreN (mn b) (ex a - ex b))) = true :=
  obsB_yes (mn_u64 b) (obsB_yes u64_0 (obsB_yes (d0_ok hle) (obsB_yes (mI_eq hle) obsB_nil)))
theorem rd_ok (s m : Bool) (a b : F) : obsB (rd (hA s m a b) (lA s m a b) (eI a)) = true := obsB_yes (hA_u s m a b) (obsB_yes (lA_u s m a b) (obsB_yes (er_ok a) obsB_nil))
theorem wAll_ok {a b : F} (s m : Bool) (h : Fst a b) : obsB (wAll s m a b) = true := by
  unfold wAll
  split
  · exact w1_ok h
  · split
    · rw [obsB_app, w1_ok h, w2_ok]; rfl
    · exact w1_ok h
theorem obA_ok {a b : F} (same : Bool) (h : Fst a b) : obsB (obA same (moreN (mn b) (ex a - ex b)) a b) = true := by
  have hle : ex b ≤ ex a := by unfold Fst at h; omega
  unfold obA
  rw [obsB_app, obsB_app, rd_ok, wAll_ok _ _ h, mI_ok hle]; rfl
end Bu
namespace Bu
set_option linter.all false
open Rx Go

structure Kd where
  sg : F → Bool
  mn : F → Int
  ex : F → Int
  dh : Int → Int → Int → Int
  dl : Int → Int → Int → Int
  dm : Int → Int → Int → Bool
  dn : Int → Bool
  u : Int → Bool
  rF : Bool → Int → Int → Bool → Int → Bool → F
  rI : Bool → Int → Int → Bool → Int → Bool → Int
  re : Int → Bool
  ah : Int → Int → Int → Int → Int
  al : Int → Int → Int → Int → Int
  sh : Int → Int → Int → Int → Int
  sl : Int → Int → Int → Int → Int

def kParts (K : Kd) : List SV → Dec → Option (SV × Dec × Obs)
  | [.fl x], ds => (takeB ds (K.sg x)).map fun r => (.tup [.b r.1, .si .u64 (K.mn x), .si .i64 (K.ex x)], r.2.1, r.2.2)
  | _, _ => none
def kDown (K : Kd) : List SV → Dec → Option (SV × Dec × Obs)
  | [.agg [x, y], z], ds => match intS x, intS y, intS z with
    | some (.u64, a), some (.u64, b), some (.i64, n) => (takeB ds (K.dm a b n)).map fun r =>
      (.tup [.agg [.si .u64 (K.dh a b n), .si .u64 (K.dl a b n)], .b r.1], r.2.1, (K.u a, true) :: (K.u b, true) :: (K.dn n, true) :: r.2.2)
    | _, _, _ => none
  | _, _ => none
def kRound (K : Kd) : List SV → Dec → Option (SV × Dec × Obs)
  | [.agg [.b minus, x, y, .b more, z], .b up], ds => match intS x, intS y, intS z with
    | some (.u64, a), some (.u64, b), some (.i64, e) => some (.tup [.fl (K.rF minus a b more e up), .si .i64 (K.rI minus a b more e up)], ds, [(K.u a, true), (K.u b, true), (K.re e, true)])
    | _, _, _ => none
  | _, _ => none
def kWadd (K : Kd) : List SV → Dec → Option (SV × Dec × Obs)
  | [.agg [x, y], .agg [z, t]], ds => match intS x, intS y, intS z, intS t with
    | some (.u64, a), some (.u64, b), some (.u64, c), some (.u64, d) => some (.agg [.si .u64 (K.ah a b c d), .si .u64 (K.al a b c d)], ds, [(K.u a, true), (K.u b, true), (K.u c, true), (K.u d, true)])
    | _, _, _, _ => none
  | _, _ => none
def kWsub (K : Kd) : List SV → Dec → Option (SV × Dec × Obs)
  | [.agg [x, y], .agg [z, t]], ds => match intS x, intS y, intS z, intS t with
    | some (.u64, a), some (.u64, b), some (.u64, c), some (.u64, d) => some (.agg [.si .u64 (K.sh a b c d), .si .u64 (K.sl a b c d)], ds, [(K.u a, true), (K.u b, true), (K.u c, true), (K.u d, true)])
    | _, _, _, _ => none
  | _, _ => none

def KR : Kd where
  sg := sg
  mn := fun x => (mn x : Int)
  ex := fun x => (ex x : Int) - 1074
  dh := fun a b n => hi (wn a b / 2 ^ n.toNat)
  dl := fun a b n => lo (wn a b / 2 ^ n.toNat)
  dm := fun a b n => decide (wn a b % 2 ^ n.toNat ≠ 0)
  dn := fun n => decide (0 ≤ n)
  u := u64B
  rF := fun minus a b more e up => (rndG minus (wn a b) more e up).1
  rI := fun minus a b more e up => (rndG minus (wn a b) more e up).2
  re := fun e => decide (-5000 ≤ e ∧ e ≤ 5000)
  ah := fun a b c d => (a + c + (b + d + 0) / 18446744073709551616) % 18446744073709551616
  al := fun _ b _ d => (b + d + 0) % 18446744073709551616
  sh := fun a b c d => (a - c - (if b < d + 0 then 1 else 0)) % 18446744073709551616
  sl := fun _ b _ d => (b - d - 0) % 18446744073709551616

/-- with names -/
def dK (K : Kd) (a b : F) : Int := IntKind.i64.wrap (K.ex a - K.ex b)
def eK (K : Kd) (a : F) : Int := IntKind.i64.wrap (K.ex a - 64)
def sH (K : Kd) (a b : F) : Int := K.dh (K.mn b) 0 (dK K a b)
def sL (K : Kd) (a b : F) : Int := K.dl (K.mn b) 0 (dK K a b)
def mK (K : Kd) (a b : F) (d : Bool) : Obs := [(K.u (K.mn b), true), (K.u 0, true), (K.dn (dK K a b), true), (K.dm (K.mn b) 0 (dK K a b), d)]
def oH (K : Kd) (a b : F) : Int := K.sh (K.mn a) 0 (sH K a b) (sL K a b)
def oL (K : Kd) (a b : F) : Int := K.sl (K.mn a) 0 (sH K a b) (sL K a b)
def hK (K : Kd) (same more : Bool) (a b : F) : Int := if same then K.ah (K.mn a) 0 (sH K a b) (sL K a b) else if more then K.sh (oH K a b) (oL K a b) 0 1 else oH K a b
def lK (K : Kd) (same more : Bool) (a b : F) : Int := if same then K.al (K.mn a) 0 (sH K a b) (sL K a b) else if more then K.sl (oH K a b) (oL K a b) 0 1 else oL K a b
def w1K (K : Kd) (a b : F) : Obs := [(K.u (K.mn a), true), (K.u 0, true), (K.u (sH K a b), true), (K.u (sL K a b), true)]
def w2K (K : Kd) (a b : F) : Obs := [(K.u (oH K a b), true), (K.u (oL K a b), true), (K.u 0, true), (K.u 1, true)]
def rdK (K : Kd) (h l e : Int) : Obs := [(K.u h, true), (K.u l, true), (K.re e, true)]
def wAllK (K : Kd) (same more : Bool) (a b : F) : Obs := if same then w1K K a b else if more then w2K K a b ++ w1K K a b else w1K K a b
def obK (K : Kd) (same more : Bool) (a b : F) : Obs := rdK K (hK K same more a b) (lK K same more a b) (eK K a) ++ wAllK K same more a b ++ mK K a b more

theorem obK_R (s m : Bool) (a b : F) : obK KR s m a b = obA s m a b := rfl
end Bu
namespace Bu
set_option linter.all false
open Ieee

/-- so many places up, that the uppermost of 64 stands -/
def nlz (m : Nat) : Nat := 64 - blen m
theorem nlz_le (m : Nat) : nlz m ≤ 64 := by unfold nlz; omega
theorem norm_bounds {m : Nat} (h0 : m ≠ 0) (h : m < 18446744073709551616) : 9223372036854775808 ≤ m * 2 ^ nlz m ∧ m * 2 ^ nlz m < 18446744073709551616 := by
  have hl : blen m = m.log2 + 1 := by unfold blen; rw [if_neg h0]
  have h1 := Nat.log2_self_le h0
  have h2 : m < 2 ^ (m.log2 + 1) := Nat.lt_log2_self
  have h3 : m.log2 < 64 := (Nat.log2_lt h0).2 (by have : (2:Nat) ^ 64 = 18446744073709551616 := rfl; omega)
  have e63 : (9223372036854775808 : Nat) = 2 ^ 63 := by decide
  have e64 : (18446744073709551616 : Nat) = 2 ^ 64 := by decide
  unfold nlz
  rw [hl, e63, e64]
  have p : (2:Nat) ^ m.log2 * 2 ^ (64 - (m.log2 + 1)) = 2 ^ 63 := by rw [← Nat.pow_add]; congr 1; omega
  have q : (2:Nat) ^ (m.log2 + 1) * 2 ^ (64 - (m.log2 + 1)) = 2 ^ 64 := by rw [← Nat.pow_add]; congr 1; omega
  constructor
  · rw [← p]; exact Nat.mul_le_mul_right _ h1
  · rw [← q]; exact Nat.mul_lt_mul_of_pos_right h2 (pow_pos' _)
theorem mn_pos {x : F} (h : x.k ≠ 0) : mn x ≠ 0 := by
  intro c
  have := man_zero _ c
  omega
theorem mn_64 (x : F) : mn x < 18446744073709551616 := by have := mn_lt x; omega

def divM (x : F) : Nat := mn x * 2 ^ nlz (mn x)
def divE (a b : F) : Int := (ex a : Int) - 1074 - nlz (mn a) - ((ex b : Int) - 1074 - nlz (mn b)) - 63

theorem rndG_div (up : Bool) (a b : F) (ha : a.k ≠ 0) (hb : b.k ≠ 0) :
    rndG (sg a != sg b) (divM a * 9223372036854775808 / divM b) (decide (0 < divM a * 9223372036854775808 % divM b)) (divE a b) up = dDiv up a b := by
  have nb := norm_bounds (mn_pos hb) (mn_64 b)
  have na := norm_bounds (mn_pos ha) (mn_64 a)
  obtain ⟨X, hX⟩ : ∃ X, divM a * 9223372036854775808 / divM b = X := ⟨_, rfl⟩
  obtain ⟨R, hR⟩ : ∃ R, divM a * 9223372036854775808 % divM b = R := ⟨_, rfl⟩
  have hdm : divM b * X + R = divM a * 9223372036854775808 := by rw [← hX, ← hR]; exact Nat.div_add_mod _ _
  have hbp : 0 < divM b := by unfold divM; omega
  have hRl : R < divM b := by rw [← hR]; exact Nat.mod_lt _ hbp
  have hXl : 4611686018427387904 ≤ X := by
    rw [← hX, Nat.le_div_iff_mul_le hbp]
    unfold divM
    generalize mn a * 2 ^ nlz (mn a) = M at *
    generalize mn b * 2 ^ nlz (mn b) = N at *
    omega
  rw [hX, hR]
  unfold dDiv
  have hzb : b.z.natAbs = mn b * 2 ^ ex b := by rw [z_parts b]; split <;> omega
  have hz : (if b.k < 0 then -(a.z * S) else a.z * S) = if (sg a != sg b) = true then -((mn a * 2 ^ ex a * S : Nat) : Int) else ((mn a * 2 ^ ex a * S : Nat) : Int) := by
    rw [z_parts a, Int.natCast_mul _ S]
    generalize ((mn a * 2 ^ ex a : Nat) : Int) = A
    by_cases c : b.k < 0
    · have hs : sg b = true := by unfold sg; exact decide_eq_true c
      rw [if_pos c, hs]
      cases sg a <;> simp [Int.neg_mul]
    · have hs : sg b = false := by unfold sg; exact decide_eq_false c
      rw [if_neg c, hs]
      cases sg a <;> simp [Int.neg_mul]
  rw [hz, hzb]
  obtain ⟨s, hs, hS⟩ := S_pow
  rw [hS]
  obtain ⟨p, hp⟩ : ∃ p, (divE a b + 1074).toNat = p := ⟨_, rfl⟩
  obtain ⟨q, hq⟩ : ∃ q, (-(divE a b + 1074)).toNat = q := ⟨_, rfl⟩
  have hpq : p + ex b + nlz (mn a) + 63 = ex a + s + q + nlz (mn b) := by unfold divE at hp hq; omega
  obtain ⟨T, hT⟩ : ∃ T, ex a + s + q + nlz (mn b) = T := ⟨_, rfl⟩
  obtain ⟨U, hU⟩ : ∃ U, nlz (mn a) + nlz (mn b) + 63 = U := ⟨_, rfl⟩
  have key1 : ∀ x : Nat, x * 2 ^ p * (mn b * 2 ^ ex b) * 2 ^ U = (divM b * x) * 2 ^ T := by
    intro x
    have e : U + p + ex b = nlz (mn b) + T := by omega
    have : (2:Nat) ^ U * 2 ^ p * 2 ^ ex b = 2 ^ nlz (mn b) * 2 ^ T := by rw [← Nat.pow_add, ← Nat.pow_add, e, Nat.pow_add]
    unfold divM
    calc x * 2 ^ p * (mn b * 2 ^ ex b) * 2 ^ U = x * mn b * (2 ^ U * 2 ^ p * 2 ^ ex b) := by ac_rfl
      _ = x * mn b * (2 ^ nlz (mn b) * 2 ^ T) := by rw [this]
      _ = mn b * 2 ^ nlz (mn b) * x * 2 ^ T := by ac_rfl
  have key2 : mn a * 2 ^ ex a * 2 ^ s * 2 ^ q * 2 ^ U = (divM a * 9223372036854775808) * 2 ^ T := by
    have e : ex a + s + q + U = nlz (mn a) + 63 + T := by omega
    have e63 : (9223372036854775808 : Nat) = 2 ^ 63 := by decide
    unfold divM
    rw [e63]
    have : (2:Nat) ^ ex a * 2 ^ s * 2 ^ q * 2 ^ U = 2 ^ nlz (mn a) * 2 ^ 63 * 2 ^ T := by rw [← Nat.pow_add, ← Nat.pow_add, ← Nat.pow_add, e, Nat.pow_add, Nat.pow_add]
    calc mn a * 2 ^ ex a * 2 ^ s * 2 ^ q * 2 ^ U = mn a * (2 ^ ex a * 2 ^ s * 2 ^ q * 2 ^ U) := by ac_rfl
      _ = mn a * (2 ^ nlz (mn a) * 2 ^ 63 * 2 ^ T) := by rw [this]
      _ = mn a * 2 ^ nlz (mn a) * 2 ^ 63 * 2 ^ T := by ac_rfl
  have hle : ∀ x : Nat, x * 2 ^ p * (mn b * 2 ^ ex b) ≤ mn a * 2 ^ ex a * 2 ^ s * 2 ^ q ↔ divM b * x ≤ divM a * 9223372036854775808 := by
    intro x
    rw [← Nat.mul_le_mul_right_iff (pow_pos' U), key1, key2, Nat.mul_le_mul_right_iff (pow_pos' T)]
  have hge : ∀ x : Nat, mn a * 2 ^ ex a * 2 ^ s * 2 ^ q ≤ x * 2 ^ p * (mn b * 2 ^ ex b) ↔ divM a * 9223372036854775808 ≤ divM b * x := by
    intro x
    rw [← Nat.mul_le_mul_right_iff (pow_pos' U), key1, key2, Nat.mul_le_mul_right_iff (pow_pos' T)]
  clear key1 key2
  have hmn : mn b ≠ 0 := mn_pos hb
  refine rndG_eq_rndR (Nat.mul_pos (by omega) (pow_pos' _)) ?_ ?_ ?_ ?_
  · rw [hp, hq]; exact (hle X).2 (by omega)
  · rw [hp, hq]
    have : ¬ ((X + 1) * 2 ^ p * (mn b * 2 ^ ex b) ≤ mn a * 2 ^ ex a * 2 ^ s * 2 ^ q) := by
      rw [hle, Nat.mul_add]; omega
    omega
  · rw [hp, hq]
    have h1 := hle X
    have h2 := hge X
    simp only [decide_eq_true_eq]
    constructor
    · intro h0 he
      have := h2.1 (Nat.le_of_eq he)
      omega
    · intro h0
      rcases Nat.eq_zero_or_pos R with c | c
      · exfalso
        apply h0
        exact Nat.le_antisymm (h2.2 (by omega)) (h1.2 (by omega))
      · exact c
  · intro _
    have : (2:Nat) ^ 62 ≤ X := by have : (2:Nat) ^ 62 = 4611686018427387904 := by decide
                                  omega
    have := blen_ge this
    omega

theorem divM_eq (M : Nat) : M / 2 * 18446744073709551616 + M * 9223372036854775808 % 18446744073709551616 = M * 9223372036854775808 := by omega
theorem blen_mn (x : F) : blen (mn x) ≤ 53 := by
  refine blen_le ?_
  have h := mn_lt x
  have e : (2:Nat) ^ 53 = 9007199254740992 := by decide
  omega
theorem rndR_zero (up : Bool) {B : Nat} : rndR up 0 B = (F.zero, 0) := by
  have e0 : flI 0 B = 0 := by unfold flI; rw [if_pos (Int.le_refl 0), Int.toNat_zero, flQ_zero]; rfl
  have e1 : ceI 0 B = 0 := by unfold ceI; rw [Int.neg_zero, e0, Int.neg_zero]
  unfold rndR
  rw [e0, e1]
  cases up <;> decide +kernel
theorem dDiv_zero (up : Bool) (a b : F) (h : a.k = 0) : dDiv up a b = (F.zero, 0) := by
  have hz : a.z = 0 := (z_zero a).2 h
  unfold dDiv
  rw [hz, Int.zero_mul, Int.neg_zero, ite_self, rndR_zero]
end Bu
namespace Bu
set_option linter.all false
open Ieee

/-- the greatest whole number whose square is no greater -/
structure IsRoot (n x : Nat) : Prop where
  le : x * x ≤ n
  lt : n < (x + 1) * (x + 1)
theorem IsRoot.mono {n x y : Nat} (h : IsRoot n x) : y ≤ x ↔ y * y ≤ n := by
  constructor
  · intro hy; exact Nat.le_trans (Nat.mul_le_mul hy hy) h.le
  · intro hy
    rcases Nat.lt_or_ge x y with c | c
    · exfalso
      have := Nat.mul_le_mul (show x + 1 ≤ y from c) (show x + 1 ≤ y from c)
      have := h.lt
      omega
    · exact c

/-- after the rounds down to 2^k -/
structure RootAt (n k x : Nat) : Prop where
  dvd : ∃ a, x = a * 2 ^ k ∧ x + 2 ^ k ≤ 18446744073709551616
  le : x * x ≤ n
  lt : n < (x + 2 ^ k) * (x + 2 ^ k)
theorem RootAt.start {n : Nat} (h : n < W128) : RootAt n 64 0 := by
  refine ⟨⟨0, by simp, by decide⟩, by simp, ?_⟩
  have e : (0 + 2 ^ 64) * (0 + 2 ^ 64) = W128 := by decide
  rw [e]; exact h
theorem RootAt.yes {n k x : Nat} (h : RootAt n (k + 1) x) (hx : (x + 2 ^ k) * (x + 2 ^ k) ≤ n) : RootAt n k (x + 2 ^ k) := by
  obtain ⟨⟨a, h1, h2⟩, h3, h4⟩ := h
  have e : (2:Nat) ^ (k + 1) = 2 ^ k + 2 ^ k := by rw [Nat.pow_succ]; omega
  rw [e] at h1 h2 h4
  refine ⟨⟨2 * a + 1, ?_, by omega⟩, hx, ?_⟩
  · rw [h1, ← Nat.two_mul, Nat.add_mul, Nat.one_mul]; ac_rfl
  · rw [Nat.add_assoc]; exact h4
theorem RootAt.no {n k x : Nat} (h : RootAt n (k + 1) x) (hx : ¬ (x + 2 ^ k) * (x + 2 ^ k) ≤ n) : RootAt n k x := by
  obtain ⟨⟨a, h1, h2⟩, h3, h4⟩ := h
  have e : (2:Nat) ^ (k + 1) = 2 ^ k + 2 ^ k := by rw [Nat.pow_succ]; omega
  rw [e] at h1 h2 h4
  have hp := pow_pos' k
  refine ⟨⟨2 * a, ?_, ?_⟩, h3, Nat.not_le.1 hx⟩
  · rw [h1, ← Nat.two_mul]; ac_rfl
  · omega
theorem RootAt.done {n x : Nat} (h : RootAt n 0 x) : IsRoot n x := ⟨h.le, by have := h.lt; simpa using this⟩

/-- round for round -/
def rootB (n : Nat) : Nat → Nat → Nat
  | 0, x => x
  | k + 1, x => if (x + 2 ^ k) * (x + 2 ^ k) ≤ n then rootB n k (x + 2 ^ k) else rootB n k x
theorem rootB_ok {n : Nat} : ∀ (k x : Nat), RootAt n k x → IsRoot n (rootB n k x)
  | 0, _, h => h.done
  | k + 1, x, h => by
    unfold rootB
    split
    · rename_i c; exact rootB_ok k _ (h.yes c)
    · rename_i c; exact rootB_ok k _ (h.no c)
def root64 (n : Nat) : Nat := rootB n 64 0
theorem root64_ok {n : Nat} (h : n < W128) : IsRoot n (root64 n) := rootB_ok 64 0 (RootAt.start h)

/-- of a number above 0: what stands in 128 bits, and by which power of two -/
def sqO (a : F) : Bool := decide (((ex a : Int) - 1074 - nlz (mn a) - 64) % 2 ≠ 0)
def sqN (a : F) : Nat := if sqO a then divM a * 9223372036854775808 else divM a * 18446744073709551616
def sqE (a : F) : Int := if sqO a then (ex a : Int) - 1074 - nlz (mn a) - 63 else (ex a : Int) - 1074 - nlz (mn a) - 64
theorem sqE_even (a : F) : sqE a % 2 = 0 := by
  unfold sqE sqO
  split <;> rename_i c <;> simp at c <;> omega
/-- the root, rounded -/
def dSqrt (up : Bool) (a : F) : F × Int := rndG false (root64 (sqN a)) (decide (root64 (sqN a) * root64 (sqN a) ≠ sqN a)) (sqE a / 2) up
end Bu
