/- Words added, subtracted: plain. -/
import Derived.Test.YtiipaicbbmkagaaGd
import Derived.Test.YtiipaicbbmkagaaRo
import Derived.Laws.BitsLemmas
namespace Bu
set_option linter.all false

theorem W128_q : W128 = 18446744073709551616 * 18446744073709551616 := by decide
theorem wn_same {m s : Nat} (h : m * 18446744073709551616 + s < W128) : wn (((m : Int) + hi s + (0 + lo s + 0) / 18446744073709551616) % 18446744073709551616) ((0 + lo s + 0) % 18446744073709551616) = m * 18446744073709551616 + s := by
  rw [W128_q] at h
  unfold wn hi lo
  omega
theorem bor_yes {x y : Int} (h : x < y) : (if x < y then (1 : Int) else 0) = 1 := if_pos h
theorem bor_no {x y : Int} (h : ¬ x < y) : (if x < y then (1 : Int) else 0) = 0 := if_neg h
theorem wn_opp {m s : Nat} (h : m * 18446744073709551616 < W128) (hs : s ≤ m * 18446744073709551616) :
    wn (((m : Int) - hi s - (if (0 : Int) < lo s + 0 then 1 else 0)) % 18446744073709551616) ((0 - lo s - 0) % 18446744073709551616) = m * 18446744073709551616 - s := by
  rw [W128_q] at h
  by_cases c : (0 : Int) < lo s + 0
  · rw [bor_yes c]
    unfold wn hi lo at *
    omega
  · rw [bor_no c]
    unfold wn hi lo at *
    omega
theorem wn_one {h l : Int} {V : Nat} (h0 : 0 ≤ h) (h1 : h < 18446744073709551616) (l0 : 0 ≤ l) (l1 : l < 18446744073709551616) (hv : wn h l = V) (hp : 1 ≤ V) :
    wn ((h - 0 - (if l < 1 + 0 then 1 else 0)) % 18446744073709551616) ((l - 1 - 0) % 18446744073709551616) = V - 1 := by
  subst hv
  obtain ⟨a, rfl⟩ := Int.eq_ofNat_of_zero_le h0
  obtain ⟨b, rfl⟩ := Int.eq_ofNat_of_zero_le l0
  unfold wn at hp ⊢
  by_cases c : (b : Int) < 1 + 0
  · rw [bor_yes c]
    have e1 : ((b : Int) - 1 - 0) % 18446744073709551616 = 18446744073709551615 := by omega
    have e2 : ((a : Int) - 0 - 1) % 18446744073709551616 = (a : Int) - 1 := by omega
    rw [e1, e2]
    omega
  · rw [bor_no c]
    have e1 : ((b : Int) - 1 - 0) % 18446744073709551616 = (b : Int) - 1 := by omega
    have e2 : ((a : Int) - 0 - 0) % 18446744073709551616 = (a : Int) := by omega
    rw [e1, e2]
    omega
open Go Rx

def dI (a b : F) : Int := IntKind.i64.wrap (((ex a : Int) - 1074) - ((ex b : Int) - 1074))
def sI (a b : F) : Nat := wn (mn b) 0 / 2 ^ (dI a b).toNat
def eI (a : F) : Int := IntKind.i64.wrap (((ex a : Int) - 1074) - 64)

theorem wrap_small {n : Int} (h : -9223372036854775808 ≤ n) (h2 : n < 9223372036854775808) : IntKind.i64.wrap n = n := by rw [IntKind.wrap_i64]; omega
theorem eI_eq (a : F) : eI a = (ex a : Int) - 1074 - 64 := by
  have h1 := ex_le a
  exact wrap_small (by omega) (by omega)
theorem dI_eq {a b : F} (hle : ex b ≤ ex a) : dI a b = ((ex a - ex b : Nat) : Int) := by
  have h1 := ex_le a
  have h2 := ex_le b
  have : ((ex a - ex b : Nat) : Int) = ((ex a : Int) - 1074) - ((ex b : Int) - 1074) := by omega
  rw [this]
  exact wrap_small (by omega) (by omega)
theorem wn_zero (n : Nat) : wn n 0 = n * 18446744073709551616 := by
  unfold wn
  rw [Int.toNat_natCast, Int.toNat_zero, Nat.add_zero]
theorem sI_eq {a b : F} (hle : ex b ≤ ex a) : sI a b = smallN (mn b) (ex a - ex b) := by
  unfold sI smallN
  rw [dI_eq hle, wn_zero, Int.toNat_natCast]
theorem mI_eq {a b : F} (hle : ex b ≤ ex a) : decide (wn (mn b) 0 % 2 ^ (dI a b).toNat ≠ 0) = moreN (mn b) (ex a - ex b) := by
  unfold moreN
  rw [dI_eq hle, wn_zero, Int.toNat_natCast]

def mI (a b : F) (d : Bool) : Obs := [(u64B (mn b), true), (u64B 0, true), (decide (0 ≤ dI a b), true), (decide (wn (mn b) 0 % 2 ^ (dI a b).toNat ≠ 0), d)]
def hS (a b : F) : Int := ((mn a : Int) + hi (sI a b) + (0 + lo (sI a b) + 0) / 18446744073709551616) % 18446744073709551616
def lS (a b : F) : Int := (0 + lo (sI a b) + 0) % 18446744073709551616
def hO (a b : F) : Int := ((mn a : Int) - hi (sI a b) - (if (0 : Int) < lo (sI a b) + 0 then 1 else 0)) % 18446744073709551616
def lO (a b : F) : Int := (0 - lo (sI a b) - 0) % 18446744073709551616
def hM (a b : F) : Int := (hO a b - 0 - (if lO a b < 1 + 0 then 1 else 0)) % 18446744073709551616
def lM (a b : F) : Int := (lO a b - 1 - 0) % 18446744073709551616
/-- what stands in both words -/
def hA (same more : Bool) (a b : F) : Int := if same then hS a b else if more then hM a b else hO a b
def lA (same more : Bool) (a b : F) : Int := if same then lS a b else if more then lM a b else lO a b
def w1 (a b : F) : Obs := [(u64B (mn a), true), (u64B 0, true), (u64B (hi (sI a b)), true), (u64B (lo (sI a b)), true)]
def w2 (a b : F) : Obs := [(u64B (hO a b), true), (u64B (lO a b), true), (u64B 0, true), (u64B 1, true)]
def rd (h l e : Int) : Obs := [(u64B h, true), (u64B l, true), (decide (-5000 ≤ e ∧ e ≤ 5000), true)]
def wAll (same more : Bool) (a b : F) : Obs := if same then w1 a b else if more then w2 a b ++ w1 a b else w1 a b
def obA (same more : Bool) (a b : F) : Obs := rd (hA same more a b) (lA same more a b) (eI a) ++ wAll same more a b ++ mI a b more

theorem u64_mk {n : Int} (h0 : 0 ≤ n) (h1 : n ≤ 18446744073709551615) : u64B n = true := decide_eq_true ⟨h0, h1⟩
theorem mod_u64 (n : Int) : u64B (n % 18446744073709551616) = true := u64_mk (by omega) (by omega)
theorem hO_u (a b : F) : u64B (hO a b) = true := mod_u64 _
theorem lO_u (a b : F) : u64B (lO a b) = true := mod_u64 _
theorem hO_r (a b : F) : 0 ≤ hO a b ∧ hO a b < 18446744073709551616 := by unfold hO; omega
theorem lO_r (a b : F) : 0 ≤ lO a b ∧ lO a b < 18446744073709551616 := by unfold lO; omega
theorem hA_u (s m : Bool) (a b : F) : u64B (hA s m a b) = true := by
  unfold hA hS hM
  split
  · exact mod_u64 _
  · split
    · exact mod_u64 _
    · exact hO_u a b
theorem lA_u (s m : Bool) (a b : F) : u64B (lA s m a b) = true := by
  unfold lA lS lM
  split
  · exact mod_u64 _
  · split
    · exact mod_u64 _
    · exact lO_u a b
theorem mn_u64 (x : F) : u64B (mn x) = true := u64_mk (by omega) (by have := mn_lt x; omega)
theorem u64_0 : u64B 0 = true := by decide
theorem u64_1 : u64B 1 = true := by decide

theorem obsB_app (a b : Obs) : obsB (a ++ b) = (obsB a && obsB b) := List.all_append
theorem obsB_cons (c d : Bool) (r : Obs) : obsB ((c, d) :: r) = ((c == d) && obsB r) := rfl
theorem obsB_nil : obsB [] = true := rfl
theorem obsB_yes {c d : Bool} {r : Obs} (h : c = d) (hr : obsB r = true) : obsB ((c, d) :: r) = true := by rw [obsB_cons, h, hr, Bool.and_true, beq_self_eq_true]

theorem hv_add {a b : F} (h : Fst a b) : wn (hA (sg a == sg b) (moreN (mn b) (ex a - ex b)) a b) (lA (sg a == sg b) (moreN (mn b) (ex a - ex b)) a b) = addN (sg a == sg b) (mn a) (mn b) (ex a - ex b) := by
  have hle : ex b ≤ ex a := by unfold Fst at h; omega
  have h5 := small_le (al_of h)
  have h6 := (wn_add true (al_of h)).2
  have hO1 := hO_r a b
  have lO1 := lO_r a b
  have h7 : smallN (mn b) (ex a - ex b) ≤ mn a * 18446744073709551616 := Nat.le_trans (Nat.le_add_right _ _) h5
  have h8 : mn a * 18446744073709551616 < W128 := Nat.lt_of_le_of_lt (Nat.le_add_right _ _) h6
  have hop : wn (hO a b) (lO a b) = mn a * 18446744073709551616 - smallN (mn b) (ex a - ex b) := by
    unfold hO lO
    rw [sI_eq hle]
    exact wn_opp h8 h7
  unfold hA lA addN
  cases (sg a == sg b) with
  | true =>
    rw [if_pos rfl, if_pos rfl, if_pos rfl]
    unfold hS lS
    rw [sI_eq hle]
    exact wn_same h6
  | false =>
    rw [if_neg Bool.false_ne_true, if_neg Bool.false_ne_true, if_neg Bool.false_ne_true]
    cases hm : moreN (mn b) (ex a - ex b) with
    | false => rw [if_neg Bool.false_ne_true, if_neg Bool.false_ne_true, if_neg Bool.false_ne_true, Nat.sub_zero]; exact hop
    | true =>
      rw [hm, if_pos rfl] at h5
      rw [if_pos rfl, if_pos rfl, if_pos rfl]
      exact wn_one hO1.1 hO1.2 lO1.1 lO1.2 hop (Nat.le_sub_of_add_le (by rw [Nat.add_comm]; exact h5))
theorem add_val {a b : F} (up : Bool) (h : Fst a b) :
    rndG (sg a) (wn (hA (sg a == sg b) (moreN (mn b) (ex a - ex b)) a b) (lA (sg a == sg b) (moreN (mn b) (ex a - ex b)) a b)) (moreN (mn b) (ex a - ex b)) (eI a) up = dAdd up a b := by
  rw [hv_add h, eI_eq, rndG_dAdd up h]
theorem er_ok (a : F) : decide (-5000 ≤ eI a ∧ eI a ≤ 5000) = true := by
  have h1 := ex_le a
  have h2 := eI_eq a
  exact decide_eq_true (by omega)
theorem d0_ok {a b : F} (h : ex b ≤ ex a) : decide (0 ≤ dI a b) = true := by
  have h2 := dI_eq h
  exact decide_eq_true (by omega)
theorem w1_ok {a b : F} (h : Fst a b) : obsB (w1 a b) = true := by
  have hle : ex b ≤ ex a := by unfold Fst at h; omega
  have hs : u64B (hi (sI a b)) = true := by
    refine u64_mk (hi_nonneg _) (hi_le _ ?_)
    rw [sI_eq hle]
    exact Nat.lt_of_le_of_lt (Nat.le_add_left _ _) (wn_add true (al_of h)).2
  exact obsB_yes (mn_u64 a) (obsB_yes u64_0 (obsB_yes hs (obsB_yes (u64_mk (lo_nonneg _) (lo_le _)) obsB_nil)))
theorem w2_ok (a b : F) : obsB (w2 a b) = true := obsB_yes (hO_u a b) (obsB_yes (lO_u a b) (obsB_yes u64_0 (obsB_yes u64_1 obsB_nil)))
theorem mI_ok {a b : F} (hle : ex b ≤ ex a) : obsB (mI a b (moreN (mn b) (ex a - ex b))) = true :=
  obsB_yes (mn_u64 b) (obsB_yes u64_0 (obsB_yes (d0_ok hle) (obsB_yes (mI_eq hle) obsB_nil)))
theorem rd_ok (s m : Bool) (a b : F) : obsB (rd (hA s m a b) (lA s m a b) (eI a)) = true := obsB_yes (hA_u s m a b) (obsB_yes (lA_u s m a b) (obsB_yes (er_ok a) obsB_nil))
theorem wAll_ok {a b : F} (s m : Bool) (h : Fst a b) : obsB (wAll s m a b) = true := by
  unfold wAll
  split
  · exact w1_ok h
  · split
    · rw [obsB_app, w1_ok h, w2_ok]; rfl
    · exact w1_ok h
theorem obA_ok {a b : F} (same : Bool) (h : Fst a b) : obsB (obA same (moreN (mn b) (ex a - ex b)) a b) = true := by
  have hle : ex b ≤ ex a := by unfold Fst at h; omega
  unfold obA
  rw [obsB_app, obsB_app, rd_ok, wAll_ok _ _ h, mI_ok hle]; rfl
end Bu
