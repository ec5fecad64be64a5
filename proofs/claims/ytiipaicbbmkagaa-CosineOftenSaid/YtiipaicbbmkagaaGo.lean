/- Package dir by the reckoner: Div. -/
import Derived.Test.YtiipaicbbmkagaaGm
import Derived.Test.YtiipaicbbmkagaaGn
import Derived.Test.YtiipaicbbmkagaaUv
namespace Go.Proofs.Ytiipaicbbmkagaa
set_option linter.all false
open Go.RowKit Bu Rx

def kLz (L : Int → Int) (u : Int → Bool) : List SV → Dec → Option (SV × Dec × Obs)
  | [x], ds => match intS x with
    | some (.u64, a) => some (.si .i64 (L a), ds, [(u a, true)])
    | _ => none
  | _, _ => none
def kDiv (q r : Int → Int → Int → Int) (c : Int → Int → Int → Bool) : List SV → Dec → Option (SV × Dec × Obs)
  | [x, y, z], ds => match intS x, intS y, intS z with
    | some (.u64, h), some (.u64, l), some (.u64, y) => some (.tup [.si .u64 (q h l y), .si .u64 (r h l y)], ds, [(c h l y, true)])
    | _, _, _ => none
  | _, _ => none
def lzI (a : Int) : Int := 64 - (blen a.toNat : Int)
def dqI (h l y : Int) : Int := ((h.toNat * 18446744073709551616 + l.toNat) / y.toNat : Nat)
def drI (h l y : Int) : Int := ((h.toNat * 18446744073709551616 + l.toNat) % y.toNat : Nat)
def dcI (h l y : Int) : Bool := decide (0 < h ∧ h < y ∧ y ≤ 18446744073709551615 ∧ 0 ≤ l ∧ l ≤ 18446744073709551615)
theorem lzG : PlainOk Try.prog 101 (kLz lzI u64B) := by
  intro args ds x ds' ob h ho
  unfold kLz at h
  split at h
  · rename_i x
    split at h
    · rename_i a ha
      simp only [Option.some.injEq, Prod.mk.injEq] at h
      obtain ⟨rfl, rfl, rfl⟩ := h
      have k1 := u64_of (ho (u64B a, true) (by simp))
      obtain ⟨p, rfl⟩ := Int.eq_ofNat_of_zero_le k1.1
      refine ⟨[.int .u64 p], _, plains_cons (intS_plain ha) plains_nil, rfl, fun w => (lz_w p w k1.2).mono ?_⟩
      rintro e w' ⟨rfl, rfl⟩
      exact ⟨rfl, Below.refl _ _⟩
    · cases h
  · cases h
theorem divG : PlainOk Try.prog 102 (kDiv dqI drI dcI) := by
  intro args ds x ds' ob h ho
  unfold kDiv at h
  split at h
  · rename_i x y z
    split at h
    · rename_i a b c ha hb hc
      simp only [Option.some.injEq, Prod.mk.injEq] at h
      obtain ⟨rfl, rfl, rfl⟩ := h
      have k1 := of_decide_eq_true (ho (dcI a b c, true) (by simp))
      obtain ⟨p, rfl⟩ := Int.eq_ofNat_of_zero_le (show 0 ≤ a by omega)
      obtain ⟨q, rfl⟩ := Int.eq_ofNat_of_zero_le (show 0 ≤ b by omega)
      obtain ⟨r, rfl⟩ := Int.eq_ofNat_of_zero_le (show 0 ≤ c by omega)
      refine ⟨[.int .u64 p, .int .u64 q, .int .u64 r], _, plains_cons (intS_plain ha) (plains_cons (intS_plain hb) (plains_cons (intS_plain hc) plains_nil)), rfl, fun w => (div64_pos p q r k1.1 k1.2.1 k1.2.2.1 k1.2.2.2.2 w).mono ?_⟩
      rintro e w' ⟨rfl, rfl⟩
      exact ⟨rfl, Below.refl _ _⟩
    · cases h
  · cases h
def OGD (K : Kd) (L : Int → Int) (q r : Int → Int → Int → Int) (c : Int → Int → Int → Bool) : OracleF :=
  lookO [(60, plainO oRight), (79, plainO (kParts K)), (81, plainO (kRound K)), (101, plainO (kLz L K.u)), (102, plainO (kDiv q r c))]
theorem oracleGD : OracleOk Try.prog (OGD KR lzI dqI drI dcI) := .cons rightG.of (.cons partsG.of (.cons roundG.of (.cons lzG.of (.cons divG.of (.nil _)))))
def nA (K : Kd) (L : Int → Int) (x : F) : Int := IntKind.u64.wrap (K.mn x * 2 ^ min (L (K.mn x)).toNat IntKind.u64.bits)
def nH (K : Kd) (L : Int → Int) (x : F) : Int := (nA K L x).fdiv (2 ^ min (Int.toNat 1) IntKind.u64.bits)
def nL (K : Kd) (L : Int → Int) (x : F) : Int := IntKind.u64.wrap (nA K L x * 2 ^ min (Int.toNat 63) IntKind.u64.bits)
def nE (K : Kd) (L : Int → Int) (x y : F) : Int := IntKind.i64.wrap (IntKind.i64.wrap (IntKind.i64.wrap (K.ex x - L (K.mn x)) - IntKind.i64.wrap (K.ex y - L (K.mn y))) - 63)
def obD (K : Kd) (L : Int → Int) (q r : Int → Int → Int → Int) (c : Int → Int → Int → Bool) (x y : F) (s t d : Bool) : Obs :=
  [(K.u 0, true), (K.u (q (nH K L x) (nL K L x) (nA K L y)), true), (K.re (nE K L x y), true), (decide (r (nH K L x) (nL K L x) (nA K L y) > 0), d), (c (nH K L x) (nL K L x) (nA K L y), true),
    (decide (0 ≤ L (K.mn y)), true), (decide (0 ≤ L (K.mn x)), true), (K.u (K.mn y), true), (K.u (K.mn x), true), (K.sg y, t), (K.sg x, s), (decide (x.k = (toF 0).k), false), (decide (y.k = (toF 0).k), false)]
theorem divRun (K : Kd) (L : Int → Int) (q r : Int → Int → Int → Int) (c : Int → Int → Int → Bool) (x y : F) (up s t d : Bool) : valR ((run Try.prog EG (OGD K L q r c) 100).1 67 [.fl x, .fl y, .b up] [] (some [false, false, s, t, d])) =
    some (.tup [.fl (K.rF (s != t) 0 (q (nH K L x) (nL K L x) (nA K L y)) d (nE K L x y) up), .si .i64 (K.rI (s != t) 0 (q (nH K L x) (nL K L x) (nA K L y)) d (nE K L x y) up)], some [], obD K L q r c x y s t d) := by
  cases s <;> cases t <;> cases d <;> kernel_rfl
theorem divRun0 (K : Kd) (L : Int → Int) (q r : Int → Int → Int → Int) (c : Int → Int → Int → Bool) (x y : F) (up : Bool) : valR ((run Try.prog EG (OGD K L q r c) 100).1 67 [.fl x, .fl y, .b up] [] (some [true])) =
    some (.tup [.fl (toF 0), .i .i64 11], some [], [(decide (y.k = (toF 0).k), true)]) := by kernel_rfl
theorem divRunZ (K : Kd) (L : Int → Int) (q r : Int → Int → Int → Int) (c : Int → Int → Int → Bool) (x y : F) (up : Bool) : valR ((run Try.prog EG (OGD K L q r c) 100).1 67 [.fl x, .fl y, .b up] [] (some [false, true])) =
    some (.tup [.fl (toF 0), .i .i64 0], some [], [(decide (x.k = (toF 0).k), true), (decide (y.k = (toF 0).k), false)]) := by kernel_rfl

structure DivFacts (x y : F) : Prop where
  lx : lzI (mn x) = nlz (mn x)
  a : nA KR lzI x = divM x
  b : nA KR lzI y = divM y
  h : nH KR lzI x = ((divM x / 2 : Nat) : Int)
  l : nL KR lzI x = ((divM x * 9223372036854775808 % 18446744073709551616 : Nat) : Int)
  e : nE KR lzI x y = divE x y
  r : -5000 ≤ divE x y ∧ divE x y ≤ 5000
theorem lzI_mn (x : F) : lzI (mn x) = nlz (mn x) := by
  have := blen_mn x
  unfold lzI nlz
  rw [Int.toNat_natCast]; omega
theorem nA_eq {x : F} (h : x.k ≠ 0) : nA KR lzI x = divM x := by
  have hb := norm_bounds (mn_pos h) (mn_64 x)
  have e1 : min (lzI (KR.mn x)).toNat IntKind.u64.bits = nlz (mn x) := by
    show min (lzI (mn x)).toNat 64 = _
    rw [lzI_mn, Int.toNat_natCast]
    exact Nat.min_eq_left (nlz_le _)
  unfold nA
  rw [e1]
  show IntKind.u64.wrap ((mn x : Int) * 2 ^ nlz (mn x)) = _
  have e2 : (mn x : Int) * 2 ^ nlz (mn x) = ((divM x : Nat) : Int) := by unfold divM; rw [Int.natCast_mul, Int.natCast_pow]; rfl
  rw [e2, IntKind.wrap_u64]
  unfold divM
  generalize mn x * 2 ^ nlz (mn x) = M at *
  omega
theorem divFacts {x y : F} (hx : x.k ≠ 0) (hy : y.k ≠ 0) : DivFacts x y := by
  have h1 := ex_le x
  have h2 := ex_le y
  have h3 := nlz_le (mn x)
  have h4 := nlz_le (mn y)
  have hr : -5000 ≤ divE x y ∧ divE x y ≤ 5000 := by unfold divE; omega
  refine ⟨lzI_mn x, nA_eq hx, nA_eq hy, ?_, ?_, ?_, hr⟩
  · unfold nH
    rw [nA_eq hx]
    show ((divM x : Nat) : Int).fdiv 2 = _
    rw [Int.fdiv_eq_ediv_of_nonneg _ (by omega)]; rfl
  · unfold nL
    rw [nA_eq hx, IntKind.wrap_u64]
    show ((divM x : Nat) : Int) * 9223372036854775808 % 18446744073709551616 = _
    omega
  · unfold nE
    show IntKind.i64.wrap (IntKind.i64.wrap (IntKind.i64.wrap ((ex x : Int) - 1074 - lzI (mn x)) - IntKind.i64.wrap ((ex y : Int) - 1074 - lzI (mn y))) - 63) = _
    rw [lzI_mn, lzI_mn]
    unfold divE
    rw [Bu.wrap_small (n := (ex x : Int) - 1074 - nlz (mn x)) (by omega) (by omega), Bu.wrap_small (n := (ex y : Int) - 1074 - nlz (mn y)) (by omega) (by omega), Bu.wrap_small (n := (ex x : Int) - 1074 - nlz (mn x) - _) (by omega) (by omega), Bu.wrap_small (by omega) (by omega)]
theorem toF_zero : toF 0 = F.zero := by decide +kernel
/-- a quotient, or what is told of none -/
def qDiv (up : Bool) (a b : F) : F × Int := if b.k = 0 then (F.zero, 11) else dDiv up a b
theorem div_F_w (x y : F) (up : Bool) (w : World) :
    Calls Try.prog 67 #[.float .f64 x.b, .float .f64 y.b, .bool up] w fun e w' => e = .returned (.tuple #[.float .f64 (qDiv up x y).1.b, .int .i64 (qDiv up x y).2]) ∧ Below w.heap.size w w' := by
  unfold qDiv
  by_cases hy : y.k = 0
  · rw [if_pos hy, ← toF_zero]
    exact calls_of_val goodG oracleGD 100 (divRun0 KR lzI dqI drI dcI x y up) (ObsOk.of_B (obsB_yes (decide_eq_true (by rw [zero_k']; exact hy)) obsB_nil)) rfl rfl w
  have oy : decide (y.k = (toF 0).k) = false := decide_eq_false (by rw [zero_k']; exact hy)
  rw [if_neg hy]
  by_cases hx : x.k = 0
  · rw [dDiv_zero up x y hx, ← toF_zero]
    exact calls_of_val goodG oracleGD 100 (divRunZ KR lzI dqI drI dcI x y up) (ObsOk.of_B (obsB_yes (decide_eq_true (by rw [zero_k']; exact hx)) (obsB_yes oy obsB_nil))) rfl rfl w
  have ox : decide (x.k = (toF 0).k) = false := decide_eq_false (by rw [zero_k']; exact hx)
  have f := divFacts hx hy
  have nx := norm_bounds (mn_pos hx) (mn_64 x)
  have ny := norm_bounds (mn_pos hy) (mn_64 y)
  have hcat := divM_eq (divM x)
  have hl : (divM x * 9223372036854775808 % 18446744073709551616 : Nat) < 18446744073709551616 := Nat.mod_lt _ (by decide)
  have hq : dqI (nH KR lzI x) (nL KR lzI x) (nA KR lzI y) = ((divM x * 9223372036854775808 / divM y : Nat) : Int) := by
    rw [f.h, f.l, f.b]; unfold dqI; rw [Int.toNat_natCast, Int.toNat_natCast, Int.toNat_natCast, hcat]
  have hr : drI (nH KR lzI x) (nL KR lzI x) (nA KR lzI y) = ((divM x * 9223372036854775808 % divM y : Nat) : Int) := by
    rw [f.h, f.l, f.b]; unfold drI; rw [Int.toNat_natCast, Int.toNat_natCast, Int.toNat_natCast, hcat]
  have hc : dcI (nH KR lzI x) (nL KR lzI x) (nA KR lzI y) = true := by
    rw [f.h, f.l, f.b]
    have k1 : 9223372036854775808 ≤ divM x ∧ divM x < 18446744073709551616 := nx
    have k2 : 9223372036854775808 ≤ divM y ∧ divM y < 18446744073709551616 := ny
    generalize divM x * 9223372036854775808 % 18446744073709551616 = l at *
    unfold dcI
    exact decide_eq_true ⟨by omega, by omega, by omega, by omega, by omega⟩
  have hqb : ((divM x * 9223372036854775808 / divM y : Nat) : Int) ≤ 18446744073709551615 := by
    have k1 : 9223372036854775808 ≤ divM x ∧ divM x < 18446744073709551616 := nx
    have k2 : 9223372036854775808 ≤ divM y ∧ divM y < 18446744073709551616 := ny
    have : divM x * 9223372036854775808 / divM y < 18446744073709551616 := by
      rw [Nat.div_lt_iff_lt_mul (by omega)]
      generalize divM x = M at *
      generalize divM y = N at *
      omega
    omega
  have hd : decide (drI (nH KR lzI x) (nL KR lzI x) (nA KR lzI y) > 0) = decide (0 < divM x * 9223372036854775808 % divM y) := by
    rw [hr]
    generalize divM x * 9223372036854775808 % divM y = R
    exact decide_eq_decide.2 (by omega)
  have hv : rndG (sg x != sg y) (wn 0 ((divM x * 9223372036854775808 / divM y : Nat) : Int)) (decide (0 < divM x * 9223372036854775808 % divM y)) (divE x y) up = dDiv up x y := by
    rw [← rndG_div up x y hx hy]
    unfold wn
    rw [Int.toNat_natCast, Int.toNat_zero, Nat.zero_mul, Nat.zero_add]
  have hrun := divRun KR lzI dqI drI dcI x y up (sg x) (sg y) (decide (0 < divM x * 9223372036854775808 % divM y))
  rw [f.e, hq] at hrun
  have ho : obsB (obD KR lzI dqI drI dcI x y (sg x) (sg y) (decide (0 < divM x * 9223372036854775808 % divM y))) = true := by
    unfold obD
    rw [hq, f.e]
    refine obsB_yes u64_0 (obsB_yes (u64_mk (Int.natCast_nonneg _) hqb) (obsB_yes (decide_eq_true f.r) (obsB_yes hd (obsB_yes hc (obsB_yes ?_ (obsB_yes ?_ (obsB_yes (mn_u64 y) (obsB_yes (mn_u64 x) (obsB_yes rfl (obsB_yes rfl (obsB_yes ox (obsB_yes oy obsB_nil))))))))))))
    · exact decide_eq_true (by show 0 ≤ lzI (mn y); rw [lzI_mn]; omega)
    · exact decide_eq_true (by show 0 ≤ lzI (mn x); rw [lzI_mn]; omega)
  rw [← hv]
  exact calls_of_val goodG oracleGD 100 hrun (ObsOk.of_B ho) rfl rfl w
end Go.Proofs.Ytiipaicbbmkagaa
