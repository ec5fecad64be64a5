/- The law UnitSides, by the reckoner. -/
import Derived.Test.YtkgpcnehffiifaaRu
namespace Go.Proofs.Ytkgpcnehffiifaa
set_option linter.all false
open Go.RowKit Bu Rx

def nR (u : Int) : Bool × Bool := (decide (0 ≤ u ∧ u ≤ 18446744073709551615), true)
def iR (x : F) (d : Bool) : Bool × Bool := (decide (0 ≤ x.k ∧ x.k ≤ 4607182418800017408), d)
def c0 (x : F) (d : Bool) : Bool × Bool := (decide (x.k < (toF 0).k), d)
def c1 (x : F) (d : Bool) : Bool × Bool := (decide ((toF 4607182418800017408).k < x.k), d)
def e1 (x : F) (d : Bool) : Bool × Bool := (decide (x.k = (toF 4607182418800017408).k), d)
def sp (u : Int) (x : F) (d : Bool) : Obs := [nR u, ((splitF u.toNat x).1, d), iR x true]
def hiW (u : Int) (x : F) (d : Bool) : Obs := [(decide ((unitOf u.toNat).hi.k < x.k), d), nR u]
def loW (u : Int) (x : F) (d : Bool) : Obs := [(decide ((unitOf u.toNat).lo.k < x.k), d), nR u]
def loG (u : Int) (x : F) (d : Bool) : Obs := [(decide (x.k ≤ (unitOf u.toNat).lo.k), d), nR u]
def lW (x : F) : Bool × Bool := (decide (Sc x (ldF x 64) 64), true)
def lt1 (x : F) (d : Bool) : Obs := [(decide ((ldF x 64).k < (toF 4607182418800017408).k), d), lW x]
def dif (u : Int) (x : F) : Obs :=
  [(decide ((toF 4611686018427387904).k ≤ (toF ((Ieee.double.sub (ldF x 64).b (ldF (unitOf u.toNat).lo 64).b).getD 0)).k), false),
   ((Ieee.double.sub (ldF x 64).b (ldF (unitOf u.toNat).lo 64).b).isSome, true), (rightB ((Ieee.double.sub (ldF x 64).b (ldF (unitOf u.toNat).lo 64).b).getD 0), true), lW (unitOf u.toNat).lo, nR u, lW x]
def left (u v : Int) (x : F) : Obs := [(decide ((((splitF u.toNat x).2 : Nat) : Int) = v), true)]

theorem one_k' : (toF 4607182418800017408).k = 4607182418800017408 := by decide +kernel
theorem two_k' : (toF 4611686018427387904).k = 4611686018427387904 := by decide +kernel

/-- the call, out of what is reckoned -/
theorem sidesRun {args : List SV} {ds : List Bool} {ob : Obs} {vs : List Value} (h : (run Try.prog EU OU 100).1 4 args [] (some ds) = some (.b true, [], some [], ob)) (ho : obsB ob = true) (hv : plains args = some vs) (w : World) :
    Calls Try.prog 4 vs.toArray w fun e w' => e = .returned (.bool true) ∧ Below w.heap.size w w' :=
  calls_of_run goodU oracleU 100 h (ObsOk.of_B ho) hv rfl w

theorem sides_no (u : Int) (x : Nat) (hu : 0 ≤ u ∧ u ≤ 18446744073709551615) (hx : x < 18446744073709551616) (h : rightB x = false) (w : World) :
    Calls Try.prog 4 #[.float .f64 x, .int .u64 u] w fun e w' => e = .returned (.bool true) ∧ Below w.heap.size w w' := by
  refine sidesRun (args := [.f x, .si .u64 u]) (ds := [false]) (ob := [nR u, (Nat.blt x 18446744073709551616, true), (rightB x, false), (Nat.blt x 18446744073709551616, true), (rightB x, false)]) (by kernel_rfl) ?_ rfl w
  have h2 : Nat.blt x 18446744073709551616 = true := Nat.blt_eq.mpr hx
  have h3 := decide_eq_true hu
  simp only [obsB, List.all_cons, List.all_nil, nR, h, h2, h3, beq_self_eq_true, Bool.and_self]

theorem sides_bad (u : Int) (x : F) (hu : 0 ≤ u ∧ u ≤ 18446744073709551615) (h : x.k < 0 ∨ 4607182418800017408 < x.k) (w : World) :
    Calls Try.prog 4 #[.float .f64 x.b, .int .u64 u] w fun e w' => e = .returned (.bool true) ∧ Below w.heap.size w w' := by
  have h3 := decide_eq_true hu
  have h4 : decide (0 ≤ x.k ∧ x.k ≤ 4607182418800017408) = false := decide_eq_false (by omega)
  by_cases hx : x.k < 0
  · refine sidesRun (args := [.fl x, .si .u64 u]) (ds := [true, false]) (ob := [nR u, iR x false, c0 x true]) (by kernel_rfl) ?_ rfl w
    have h5 := decide_eq_true hx
    simp only [obsB, List.all_cons, List.all_nil, nR, iR, c0, zero_k', h3, h4, h5, beq_self_eq_true, Bool.and_self]
  · refine sidesRun (args := [.fl x, .si .u64 u]) (ds := [false, true, false]) (ob := [nR u, iR x false, c1 x true, c0 x false]) (by kernel_rfl) ?_ rfl w
    have h5 := decide_eq_false hx
    have h6 : decide (4607182418800017408 < x.k) = true := decide_eq_true (by omega)
    simp only [obsB, List.all_cons, List.all_nil, nR, iR, c0, c1, zero_k', one_k', h3, h4, h5, h6, beq_self_eq_true, Bool.and_self]

theorem sides_one (n : Nat) (x : F) (hu : (n : Int) ≤ 18446744073709551615) (hx : x.k = 4607182418800017408) (w : World) :
    Calls Try.prog 4 #[.float .f64 x.b, .int .u64 n] w fun e w' => e = .returned (.bool true) ∧ Below w.heap.size w w' := by
  have h3 : decide (0 ≤ (n : Int) ∧ (n : Int) ≤ 18446744073709551615) = true := decide_eq_true ⟨by omega, hu⟩
  have h4 : decide (0 ≤ x.k ∧ x.k ≤ 4607182418800017408) = true := decide_eq_true (by omega)
  have h5 : decide (x.k < 0) = false := decide_eq_false (by omega)
  have h6 : decide (4607182418800017408 < x.k) = false := decide_eq_false (by omega)
  have h7 : decide (x.k = 4607182418800017408) = true := decide_eq_true hx
  obtain ⟨lo, hi, nx, X, N, fp⟩ := unit_facts n (by omega)
  have hs : splitF n x = (true, n) := by
    have hb : splitB x = 0 := by unfold splitB; rw [if_neg (by omega)]
    unfold splitF; rw [if_pos (Or.inl hx), hb]; rfl
  have h8 : decide (x.k ≤ lo.k) = false := decide_eq_false (by have := fp.lt; omega)
  have h9 : decide (lo.k < x.k) = true := decide_eq_true (by have := fp.lt; omega)
  by_cases c : hi.k < x.k
  · refine sidesRun (args := [.fl x, .si .u64 n]) (ds := [false, false, true, true, true, false, true, true, true, true, true])
      (ob := left n n x ++ [e1 x true] ++ sp n x true ++ [e1 x true] ++ loG n x false ++ hiW n x true ++ sp n x true ++ [c1 x false, c0 x false]) (by kernel_rfl) ?_ rfl w
    have h10 := decide_eq_true c
    simp only [obsB, List.all_append, List.all_cons, List.all_nil, left, e1, sp, loG, hiW, nR, iR, c0, c1, zero_k', one_k', Int.toNat_natCast, hs, fp.of, h3, h4, h5, h6, h7, h8, h10, decide_true, beq_self_eq_true, Bool.and_self]
  · refine sidesRun (args := [.fl x, .si .u64 n]) (ds := [false, false, true, true, false, true, true, false, true, true, true, true, true])
      (ob := left n n x ++ [e1 x true] ++ sp n x true ++ [e1 x true] ++ loG n x false ++ [e1 x true] ++ loW n x true ++ hiW n x false ++ sp n x true ++ [c1 x false, c0 x false]) (by kernel_rfl) ?_ rfl w
    have h10 := decide_eq_false c
    simp only [obsB, List.all_append, List.all_cons, List.all_nil, left, e1, sp, loG, loW, hiW, nR, iR, c0, c1, zero_k', one_k', Int.toNat_natCast, hs, fp.of, h3, h4, h5, h6, h7, h8, h9, h10, decide_true, beq_self_eq_true, Bool.and_self]

def toI (x : F) : Bool × Bool := ((f2i .u64 (ldF x 64).b).isSome, true)
/-- the bound, as the call has it -/
def bI (x : F) : Int := (f2i .u64 (ldF x 64).b).getD 0
def eqI (a b : Int) (d : Bool) : Bool × Bool := (decide (a = b), d)
def eqZ (u : Int) (x : F) : Bool × Bool := (decide ((((splitF u.toNat x).2 : Nat) : Int) = 0), true)
def gtZ (u : Int) (x : F) : Bool × Bool := (decide ((0 : Int) < (((splitF u.toNat x).2 : Nat) : Int)), true)

structure InF (n : Nat) (x lo hi y : F) (B : Nat) (u : Int) : Prop where
  h3 : decide (0 ≤ (n : Int) ∧ (n : Int) ≤ 18446744073709551615) = true
  h4 : decide (0 ≤ x.k ∧ x.k ≤ 4607182418800017408) = true
  h5 : decide (x.k < 0) = false
  h6 : decide (4607182418800017408 < x.k) = false
  h7 : decide (x.k = 4607182418800017408) = false
  of : unitOf n = ⟨lo, hi⟩
  ld : ldF x 64 = y
  sc : decide (Sc x y 64) = true

theorem sides_small (n : Nat) (x : F) (hu : (n : Int) ≤ 18446744073709551615) (hx0 : 0 ≤ x.k) (hx1 : x.k < 4607182418800017408) {lo hi X y : F} {B : Nat} (sf : SFacts n x lo hi X y B) (hB : B = 0) (w : World) :
    Calls Try.prog 4 #[.float .f64 x.b, .int .u64 n] w fun e w' => e = .returned (.bool true) ∧ Below w.heap.size w w' := by
  have h3 : decide (0 ≤ (n : Int) ∧ (n : Int) ≤ 18446744073709551615) = true := decide_eq_true ⟨by omega, hu⟩
  have h4 : decide (0 ≤ x.k ∧ x.k ≤ 4607182418800017408) = true := decide_eq_true (by omega)
  have h5 : decide (x.k < 0) = false := decide_eq_false (by omega)
  have h6 : decide (4607182418800017408 < x.k) = false := decide_eq_false (by omega)
  have h7 : decide (x.k = 4607182418800017408) = false := decide_eq_false (by omega)
  have hs : splitF n x = (false, n) := by unfold splitF; rw [sf.Bq, hB, if_neg (by omega), if_neg (by omega)]
  have hy := ldF_eq sf.sw
  have hX := ldF_eq sf.sl
  have h11 : decide (Sc x y 64) = true := decide_eq_true sf.sw
  have h12 : decide (Sc lo X 64) = true := decide_eq_true sf.sl
  have h13 : decide (y.k < 4607182418800017408) = true := decide_eq_true (sf.yz hB)
  by_cases c : hi.k < x.k
  · obtain ⟨D, d1, d2, d3⟩ := sf.over (by omega) c
    have hDr : rightB D.b = true := right_F D
    have h14 : decide (4611686018427387904 ≤ D.k) = false := decide_eq_false (by omega)
    have h8 : decide (x.k ≤ lo.k) = false := decide_eq_false (by
      have := unit_facts n (by omega)
      obtain ⟨a, b, nx, X', N, fp⟩ := this
      have e := fp.of.symm.trans sf.of
      simp only [Iv.mk.injEq] at e
      obtain ⟨rfl, rfl⟩ := e
      have := fp.cs
      have := fp.nk
      rcases fp.cs with ⟨h1, _⟩ | ⟨h1, _⟩ <;> subst h1 <;> omega)
    refine sidesRun (args := [.fl x, .si .u64 n]) (ds := [false, false, true, false, true, false, false, false, true, true, false, false, true])
      (ob := left n n x ++ [e1 x false] ++ sp n x false ++ lt1 x true ++ [e1 x false] ++ loG n x false ++ dif n x ++ hiW n x true ++ sp n x false ++ [c1 x false, c0 x false]) (by kernel_rfl) ?_ rfl w
    have h10 := decide_eq_true c
    simp only [obsB, List.all_append, List.all_cons, List.all_nil, left, e1, sp, loG, hiW, lt1, lW, dif, nR, iR, c0, c1, zero_k', one_k', two_k', Int.toNat_natCast, hs, sf.of, hy, hX, d1, Option.isSome_some, Option.getD_some, toF_F, hDr, h3, h4, h5, h6, h7, h8, h10, h11, h12, h13, h14, decide_true, beq_self_eq_true, Bool.and_self]
  · have h10 := decide_eq_false c
    by_cases c2 : lo.k < x.k
    · have h9 := decide_eq_true c2
      have h8 : decide (x.k ≤ lo.k) = false := decide_eq_false (by omega)
      refine sidesRun (args := [.fl x, .si .u64 n]) (ds := [false, false, true, false, false, true, false, false, false, true, true, false, false, true])
        (ob := left n n x ++ [e1 x false] ++ sp n x false ++ lt1 x true ++ [e1 x false] ++ loG n x false ++ [e1 x false] ++ loW n x true ++ hiW n x false ++ sp n x false ++ [c1 x false, c0 x false]) (by kernel_rfl) ?_ rfl w
      simp only [obsB, List.all_append, List.all_cons, List.all_nil, left, e1, sp, loG, loW, hiW, lt1, lW, nR, iR, c0, c1, zero_k', one_k', Int.toNat_natCast, hs, sf.of, hy, h3, h4, h5, h6, h7, h8, h9, h10, h11, h13, decide_true, beq_self_eq_true, Bool.and_self]
    · have h9 := decide_eq_false c2
      have h8 : decide (x.k ≤ lo.k) = true := decide_eq_true (by omega)
      refine sidesRun (args := [.fl x, .si .u64 n]) (ds := [false, false, true, false, false, false, true, false, true, true, false, false, true])
        (ob := left n n x ++ [e1 x false] ++ sp n x false ++ lt1 x true ++ [e1 x false] ++ loG n x true ++ loW n x false ++ hiW n x false ++ sp n x false ++ [c1 x false, c0 x false]) (by kernel_rfl) ?_ rfl w
      simp only [obsB, List.all_append, List.all_cons, List.all_nil, left, e1, sp, loG, loW, hiW, lt1, lW, nR, iR, c0, c1, zero_k', one_k', Int.toNat_natCast, hs, sf.of, hy, h3, h4, h5, h6, h7, h8, h9, h10, h11, h13, decide_true, beq_self_eq_true, Bool.and_self]


def fin (x : F) (d : Bool) : Obs :=
  (if d then [] else [gtZ (IntKind.u64.wrap (bI x - 1)) x]) ++ [eqI (bI x) 1 d, eqZ 0 x, eqZ (bI x) x] ++ sp 0 x true ++ sp (bI x) x false ++ sp (IntKind.u64.wrap (bI x - 1)) x true ++ [toI x, lW x] ++ lt1 x false ++ [e1 x false]

theorem sides_great (n : Nat) (x : F) (hu : (n : Int) ≤ 18446744073709551615) (hx0 : 0 ≤ x.k) (hx1 : x.k < 4607182418800017408) {lo hi X y : F} {B : Nat} (sf : SFacts n x lo hi X y B) (hB : B ≠ 0) (w : World) :
    Calls Try.prog 4 #[.float .f64 x.b, .int .u64 n] w fun e w' => e = .returned (.bool true) ∧ Below w.heap.size w w' := by
  have h3 : decide (0 ≤ (n : Int) ∧ (n : Int) ≤ 18446744073709551615) = true := decide_eq_true ⟨by omega, hu⟩
  have h4 : decide (0 ≤ x.k ∧ x.k ≤ 4607182418800017408) = true := decide_eq_true (by omega)
  have h5 : decide (x.k < 0) = false := decide_eq_false (by omega)
  have h6 : decide (4607182418800017408 < x.k) = false := decide_eq_false (by omega)
  have h7 : decide (x.k = 4607182418800017408) = false := decide_eq_false (by omega)
  have hy := ldF_eq sf.sw
  have hX := ldF_eq sf.sl
  have h11 : decide (Sc x y 64) = true := decide_eq_true sf.sw
  have h12 : decide (Sc lo X 64) = true := decide_eq_true sf.sl
  have h13 : decide (y.k < 4607182418800017408) = false := decide_eq_false (sf.yn (by omega))
  have hBl := sf.Bl
  have hf : f2i .u64 y.b = some (B : Int) := by
    unfold f2i
    have e : (FloatKind.f64.decode y.b).toInt .zero = some (y.z / S) := trunc_F y sf.y0
    rw [e, sf.yB]
    simp only
    rw [if_pos]
    have m1 : IntKind.u64.min = 0 := by decide
    have m2 : IntKind.u64.max = 18446744073709551615 := by decide
    rw [m1, m2]; omega
  have hb : bI x = (B : Int) := by unfold bI; rw [hy, hf]; rfl
  have hw : IntKind.u64.wrap ((B : Int) - 1) = ((B - 1 : Nat) : Int) := by rw [IntKind.wrap_u64, Int.emod_eq_of_lt (by omega) (by omega)]; omega
  have g1 : decide (0 ≤ (B : Int) ∧ (B : Int) ≤ 18446744073709551615) = true := decide_eq_true ⟨by omega, by omega⟩
  have g2 : decide (0 ≤ ((B - 1 : Nat) : Int) ∧ ((B - 1 : Nat) : Int) ≤ 18446744073709551615) = true := decide_eq_true ⟨by omega, by omega⟩
  have g3 : decide (0 ≤ (0 : Int) ∧ (0 : Int) ≤ 18446744073709551615) = true := by decide
  have hs2 : splitF B x = (false, 0) := by
    unfold splitF; rw [sf.Bq, if_neg (by omega), if_pos (by omega), Nat.sub_self, Nat.zero_mul, Nat.zero_div]
  have hs3 : splitF 0 x = (true, 0) := by
    unfold splitF; rw [sf.Bq, if_pos (Or.inr (by omega)), if_pos (by omega), Nat.zero_mul, Nat.zero_div]
  obtain ⟨P, hP⟩ : ∃ P : Nat, P = (B - 1) * 18446744073709551616 / B := ⟨_, rfl⟩
  have hs1 : splitF (B - 1) x = (true, P) := by
    unfold splitF; rw [sf.Bq, if_pos (Or.inr (by omega)), if_pos (by omega), hP]
  have t0 : (0 : Int).toNat = 0 := rfl
  have z0 : decide (((0 : Nat) : Int) = 0) = true := by decide
  have hlohi : lo.k ≤ hi.k := by
    obtain ⟨a, b, nx, X', N, fp⟩ := unit_facts n (by omega)
    have e := fp.of.symm.trans sf.of
    simp only [Iv.mk.injEq] at e
    obtain ⟨rfl, rfl⟩ := e
    have := fp.nk
    rcases fp.cs with ⟨h1, _⟩ | ⟨h1, _⟩ <;> subst h1 <;> omega
  by_cases hb1 : B = 1
  · have k1 : decide ((B : Int) = 1) = true := decide_eq_true (by omega)
    by_cases hub : n < B
    · obtain ⟨l, hs⟩ : ∃ l : Nat, splitF n x = (true, l) := by
        unfold splitF; rw [sf.Bq, if_pos (Or.inr hub)]; exact ⟨_, rfl⟩
      have h9 : decide (lo.k < x.k) = true := decide_eq_true (sf.under hub)
      have h8 : decide (x.k ≤ lo.k) = false := decide_eq_false (by have := sf.under hub; omega)
      by_cases c : hi.k < x.k
      · have h10 := decide_eq_true c
        refine sidesRun (args := [.fl x, .si .u64 n]) (ds := [false, false, true, true, true, false, false, false, true, true, true, false, true, true, true, true, true])
          (ob := fin x true ++ loG n x false ++ hiW n x true ++ sp n x true ++ [c1 x false, c0 x false]) (by kernel_rfl) ?_ rfl w
        simp only [obsB, List.all_append, List.all_cons, List.all_nil, fin, toI, eqI, eqZ, gtZ, hb, hw, hf, hs1, hs2, hs3, t0, z0, g1, g2, g3, Bool.false_eq_true, if_false, if_true, left, e1, sp, loG, loW, hiW, lt1, lW, dif, nR, iR, c0, c1, zero_k', one_k', two_k', Int.toNat_natCast, hs, sf.of, hy, hX, Option.isSome_some, Option.getD_some, toF_F, h3, h4, h5, h6, h7, h11, h12, h13, decide_true, beq_self_eq_true, Bool.and_self, h8, h9, h10, k1]
      · have h10 := decide_eq_false c
        refine sidesRun (args := [.fl x, .si .u64 n]) (ds := [false, false, true, true, false, true, false, false, false, false, true, true, true, false, true, true, true, true, true])
          (ob := fin x true ++ loG n x false ++ [e1 x false] ++ loW n x true ++ hiW n x false ++ sp n x true ++ [c1 x false, c0 x false]) (by kernel_rfl) ?_ rfl w
        simp only [obsB, List.all_append, List.all_cons, List.all_nil, fin, toI, eqI, eqZ, gtZ, hb, hw, hf, hs1, hs2, hs3, t0, z0, g1, g2, g3, Bool.false_eq_true, if_false, if_true, left, e1, sp, loG, loW, hiW, lt1, lW, dif, nR, iR, c0, c1, zero_k', one_k', two_k', Int.toNat_natCast, hs, sf.of, hy, hX, Option.isSome_some, Option.getD_some, toF_F, h3, h4, h5, h6, h7, h11, h12, h13, decide_true, beq_self_eq_true, Bool.and_self, h8, h9, h10, k1]
    · obtain ⟨l, hs⟩ : ∃ l : Nat, splitF n x = (false, l) := by
        unfold splitF; rw [sf.Bq, if_neg (by omega)]; exact ⟨_, rfl⟩
      by_cases c : hi.k < x.k
      · have h10 := decide_eq_true c
        obtain ⟨D, d1, d2, d3⟩ := sf.over (by omega) c
        have hDr : rightB D.b = true := right_F D
        have h14 : decide (4611686018427387904 ≤ D.k) = false := decide_eq_false (by omega)
        have h8 : decide (x.k ≤ lo.k) = false := decide_eq_false (by omega)
        refine sidesRun (args := [.fl x, .si .u64 n]) (ds := [false, false, true, false, true, false, false, false, false, true, true, true, false, true, true, true, true, true])
          (ob := fin x true ++ loG n x false ++ dif n x ++ hiW n x true ++ sp n x false ++ [c1 x false, c0 x false]) (by kernel_rfl) ?_ rfl w
        simp only [obsB, List.all_append, List.all_cons, List.all_nil, fin, toI, eqI, eqZ, gtZ, hb, hw, hf, hs1, hs2, hs3, t0, z0, g1, g2, g3, Bool.false_eq_true, if_false, if_true, left, e1, sp, loG, loW, hiW, lt1, lW, dif, nR, iR, c0, c1, zero_k', one_k', two_k', Int.toNat_natCast, hs, sf.of, hy, hX, Option.isSome_some, Option.getD_some, toF_F, h3, h4, h5, h6, h7, h11, h12, h13, decide_true, beq_self_eq_true, Bool.and_self, h8, h10, d1, hDr, h14, k1]
      · have h10 := decide_eq_false c
        by_cases c2 : lo.k < x.k
        · have h9 := decide_eq_true c2
          have h8 : decide (x.k ≤ lo.k) = false := decide_eq_false (by omega)
          refine sidesRun (args := [.fl x, .si .u64 n]) (ds := [false, false, true, false, false, true, false, false, false, false, true, true, true, false, true, true, true, true, true])
            (ob := fin x true ++ loG n x false ++ [e1 x false] ++ loW n x true ++ hiW n x false ++ sp n x false ++ [c1 x false, c0 x false]) (by kernel_rfl) ?_ rfl w
          simp only [obsB, List.all_append, List.all_cons, List.all_nil, fin, toI, eqI, eqZ, gtZ, hb, hw, hf, hs1, hs2, hs3, t0, z0, g1, g2, g3, Bool.false_eq_true, if_false, if_true, left, e1, sp, loG, loW, hiW, lt1, lW, dif, nR, iR, c0, c1, zero_k', one_k', two_k', Int.toNat_natCast, hs, sf.of, hy, hX, Option.isSome_some, Option.getD_some, toF_F, h3, h4, h5, h6, h7, h11, h12, h13, decide_true, beq_self_eq_true, Bool.and_self, h8, h9, h10, k1]
        · have h9 := decide_eq_false c2
          have h8 : decide (x.k ≤ lo.k) = true := decide_eq_true (by omega)
          refine sidesRun (args := [.fl x, .si .u64 n]) (ds := [false, false, true, false, false, false, true, false, false, true, true, true, false, true, true, true, true, true])
            (ob := fin x true ++ loG n x true ++ loW n x false ++ hiW n x false ++ sp n x false ++ [c1 x false, c0 x false]) (by kernel_rfl) ?_ rfl w
          simp only [obsB, List.all_append, List.all_cons, List.all_nil, fin, toI, eqI, eqZ, gtZ, hb, hw, hf, hs1, hs2, hs3, t0, z0, g1, g2, g3, Bool.false_eq_true, if_false, if_true, left, e1, sp, loG, loW, hiW, lt1, lW, dif, nR, iR, c0, c1, zero_k', one_k', two_k', Int.toNat_natCast, hs, sf.of, hy, hX, Option.isSome_some, Option.getD_some, toF_F, h3, h4, h5, h6, h7, h11, h12, h13, decide_true, beq_self_eq_true, Bool.and_self, h8, h9, h10, k1]
  · have k1 : decide ((B : Int) = 1) = false := decide_eq_false (by omega)
    have k2 : decide ((0 : Int) < (P : Int)) = true := decide_eq_true (by
      have : 0 < P := by rw [hP]; exact Nat.div_pos (by omega) (by omega)
      omega)
    by_cases hub : n < B
    · obtain ⟨l, hs⟩ : ∃ l : Nat, splitF n x = (true, l) := by
        unfold splitF; rw [sf.Bq, if_pos (Or.inr hub)]; exact ⟨_, rfl⟩
      have h9 : decide (lo.k < x.k) = true := decide_eq_true (sf.under hub)
      have h8 : decide (x.k ≤ lo.k) = false := decide_eq_false (by have := sf.under hub; omega)
      by_cases c : hi.k < x.k
      · have h10 := decide_eq_true c
        refine sidesRun (args := [.fl x, .si .u64 n]) (ds := [false, false, true, true, true, false, false, false, true, true, true, false, true, true, true, true, false, true])
          (ob := fin x false ++ loG n x false ++ hiW n x true ++ sp n x true ++ [c1 x false, c0 x false]) (by kernel_rfl) ?_ rfl w
        simp only [obsB, List.all_append, List.all_cons, List.all_nil, fin, toI, eqI, eqZ, gtZ, hb, hw, hf, hs1, hs2, hs3, t0, z0, g1, g2, g3, Bool.false_eq_true, if_false, if_true, left, e1, sp, loG, loW, hiW, lt1, lW, dif, nR, iR, c0, c1, zero_k', one_k', two_k', Int.toNat_natCast, hs, sf.of, hy, hX, Option.isSome_some, Option.getD_some, toF_F, h3, h4, h5, h6, h7, h11, h12, h13, decide_true, beq_self_eq_true, Bool.and_self, h8, h9, h10, k1, k2]
      · have h10 := decide_eq_false c
        refine sidesRun (args := [.fl x, .si .u64 n]) (ds := [false, false, true, true, false, true, false, false, false, false, true, true, true, false, true, true, true, true, false, true])
          (ob := fin x false ++ loG n x false ++ [e1 x false] ++ loW n x true ++ hiW n x false ++ sp n x true ++ [c1 x false, c0 x false]) (by kernel_rfl) ?_ rfl w
        simp only [obsB, List.all_append, List.all_cons, List.all_nil, fin, toI, eqI, eqZ, gtZ, hb, hw, hf, hs1, hs2, hs3, t0, z0, g1, g2, g3, Bool.false_eq_true, if_false, if_true, left, e1, sp, loG, loW, hiW, lt1, lW, dif, nR, iR, c0, c1, zero_k', one_k', two_k', Int.toNat_natCast, hs, sf.of, hy, hX, Option.isSome_some, Option.getD_some, toF_F, h3, h4, h5, h6, h7, h11, h12, h13, decide_true, beq_self_eq_true, Bool.and_self, h8, h9, h10, k1, k2]
    · obtain ⟨l, hs⟩ : ∃ l : Nat, splitF n x = (false, l) := by
        unfold splitF; rw [sf.Bq, if_neg (by omega)]; exact ⟨_, rfl⟩
      by_cases c : hi.k < x.k
      · have h10 := decide_eq_true c
        obtain ⟨D, d1, d2, d3⟩ := sf.over (by omega) c
        have hDr : rightB D.b = true := right_F D
        have h14 : decide (4611686018427387904 ≤ D.k) = false := decide_eq_false (by omega)
        have h8 : decide (x.k ≤ lo.k) = false := decide_eq_false (by omega)
        refine sidesRun (args := [.fl x, .si .u64 n]) (ds := [false, false, true, false, true, false, false, false, false, true, true, true, false, true, true, true, true, false, true])
          (ob := fin x false ++ loG n x false ++ dif n x ++ hiW n x true ++ sp n x false ++ [c1 x false, c0 x false]) (by kernel_rfl) ?_ rfl w
        simp only [obsB, List.all_append, List.all_cons, List.all_nil, fin, toI, eqI, eqZ, gtZ, hb, hw, hf, hs1, hs2, hs3, t0, z0, g1, g2, g3, Bool.false_eq_true, if_false, if_true, left, e1, sp, loG, loW, hiW, lt1, lW, dif, nR, iR, c0, c1, zero_k', one_k', two_k', Int.toNat_natCast, hs, sf.of, hy, hX, Option.isSome_some, Option.getD_some, toF_F, h3, h4, h5, h6, h7, h11, h12, h13, decide_true, beq_self_eq_true, Bool.and_self, h8, h10, d1, hDr, h14, k1, k2]
      · have h10 := decide_eq_false c
        by_cases c2 : lo.k < x.k
        · have h9 := decide_eq_true c2
          have h8 : decide (x.k ≤ lo.k) = false := decide_eq_false (by omega)
          refine sidesRun (args := [.fl x, .si .u64 n]) (ds := [false, false, true, false, false, true, false, false, false, false, true, true, true, false, true, true, true, true, false, true])
            (ob := fin x false ++ loG n x false ++ [e1 x false] ++ loW n x true ++ hiW n x false ++ sp n x false ++ [c1 x false, c0 x false]) (by kernel_rfl) ?_ rfl w
          simp only [obsB, List.all_append, List.all_cons, List.all_nil, fin, toI, eqI, eqZ, gtZ, hb, hw, hf, hs1, hs2, hs3, t0, z0, g1, g2, g3, Bool.false_eq_true, if_false, if_true, left, e1, sp, loG, loW, hiW, lt1, lW, dif, nR, iR, c0, c1, zero_k', one_k', two_k', Int.toNat_natCast, hs, sf.of, hy, hX, Option.isSome_some, Option.getD_some, toF_F, h3, h4, h5, h6, h7, h11, h12, h13, decide_true, beq_self_eq_true, Bool.and_self, h8, h9, h10, k1, k2]
        · have h9 := decide_eq_false c2
          have h8 : decide (x.k ≤ lo.k) = true := decide_eq_true (by omega)
          refine sidesRun (args := [.fl x, .si .u64 n]) (ds := [false, false, true, false, false, false, true, false, false, true, true, true, false, true, true, true, true, false, true])
            (ob := fin x false ++ loG n x true ++ loW n x false ++ hiW n x false ++ sp n x false ++ [c1 x false, c0 x false]) (by kernel_rfl) ?_ rfl w
          simp only [obsB, List.all_append, List.all_cons, List.all_nil, fin, toI, eqI, eqZ, gtZ, hb, hw, hf, hs1, hs2, hs3, t0, z0, g1, g2, g3, Bool.false_eq_true, if_false, if_true, left, e1, sp, loG, loW, hiW, lt1, lW, dif, nR, iR, c0, c1, zero_k', one_k', two_k', Int.toNat_natCast, hs, sf.of, hy, hX, Option.isSome_some, Option.getD_some, toF_F, h3, h4, h5, h6, h7, h11, h12, h13, decide_true, beq_self_eq_true, Bool.and_self, h8, h9, h10, k1, k2]

theorem sides_row (x u : _) (w0 : (Lit.float .f64 x).wf = true) (w1 : (Lit.int .u64 u).wf = true) (w : World) :
    Calls Try.prog 4 #[.float .f64 x, .int .u64 u] w fun e w' => e = .returned (.bool true) ∧ Below w.heap.size w w' := by
  obtain ⟨n, rfl, hu⟩ := u64_nat w1
  cases hr : rightB x with
  | false => exact sides_no n x ⟨by omega, hu⟩ (f64_in w0) hr w
  | true =>
    obtain ⟨y, rfl⟩ := F_of_right hr
    by_cases hb : y.k < 0 ∨ 4607182418800017408 < y.k
    · exact sides_bad n y ⟨by omega, hu⟩ hb w
    · by_cases he : y.k = 4607182418800017408
      · exact sides_one n y hu he w
      · obtain ⟨lo, hi, X, z, B, sf⟩ := sides_facts n (by omega) y (by omega) (by omega)
        by_cases hB : B = 0
        · exact sides_small n y hu (by omega) (by omega) sf hB w
        · exact sides_great n y hu (by omega) (by omega) sf hB w
end Go.Proofs.Ytkgpcnehffiifaa
