/- Grains: how small a number of a line's registers may be, but for 0. -/
import Derived.Test.YtccmfddnbofgkaaGreatLa
namespace Bu
set_option linter.all false
open Rx Go

@[irreducible] def pw (M : Nat) : Rat := ((2 ^ M : Nat) : Rat)
theorem pw_add (a b : Nat) : pw (a + b) = pw a * pw b := by unfold pw; rw [Nat.pow_add, Rat.natCast_mul]
theorem pw_pos (a : Nat) : 0 < pw a := by unfold pw; exact natq_pos (Nat.two_pow_pos a)
theorem pw_ge (a : Nat) : 1 ≤ pw a := by
  unfold pw
  have := Rat.natCast_le_natCast.2 (show 1 ≤ 2 ^ a from Nat.two_pow_pos a)
  simpa using this
theorem pw_mono {a b : Nat} (h : a ≤ b) : pw a ≤ pw b := by
  obtain ⟨c, rfl⟩ := Nat.exists_eq_add_of_le h
  rw [pw_add]
  have := pw_ge c
  have := Rat.mul_nonneg (Rat.le_of_lt (pw_pos a)) (show 0 ≤ pw c - 1 by grind)
  grind
theorem pw_zero : pw 0 = 1 := by unfold pw; rfl
theorem pw_one : pw 1 = 2 := by unfold pw; rfl
theorem pw_S : (S : Rat) = pw 1074 := by unfold pw; rw [S_eq]
def Gr (M : Nat) (v : Rat) : Prop := v = 0 ∨ 1 ≤ v * pw M ∨ v * pw M ≤ -1
theorem one_le_mul {p q : Rat} (hp : 1 ≤ p) (hq : 1 ≤ q) : 1 ≤ p * q := by
  have := Rat.mul_nonneg (show 0 ≤ p - 1 by grind) (show 0 ≤ q by grind)
  grind
theorem Gr.mono {M N : Nat} {v : Rat} (h : Gr M v) (k : M ≤ N) : Gr N v := by
  obtain ⟨c, rfl⟩ := Nat.exists_eq_add_of_le k
  unfold Gr at *
  rw [pw_add]
  have p := pw_ge c
  rcases h with h | h | h
  · exact .inl h
  · have := one_le_mul h p
    right; left; grind
  · have := one_le_mul (show 1 ≤ -(v * pw M) by grind) p
    right; right; grind
theorem Gr.neg {M : Nat} {v : Rat} (h : Gr M v) : Gr M (-v) := by
  unfold Gr at *
  rcases h with h | h | h
  · left; grind
  · right; right; grind
  · right; left; grind
theorem Gr.zero {M : Nat} : Gr M 0 := .inl rfl
theorem Gr.one : Gr 0 1 := by unfold Gr; rw [pw_zero]; right; left; grind
theorem Gr.mul {M N : Nat} {x y : Rat} (a : Gr M x) (b : Gr N y) : Gr (M + N) (x * y) := by
  unfold Gr at *
  rw [pw_add]
  generalize pw M = m at *
  generalize pw N = n at *
  rcases a with a | a | a
  · left; rw [a, Rat.zero_mul]
  · rcases b with b | b | b
    · left; rw [b, Rat.mul_zero]
    · have := one_le_mul a b; right; left; grind
    · have := one_le_mul a (show 1 ≤ -(y * n) by grind); right; right; grind
  · rcases b with b | b | b
    · left; rw [b, Rat.mul_zero]
    · have := one_le_mul (show 1 ≤ -(x * m) by grind) b; right; right; grind
    · have := one_le_mul (show 1 ≤ -(x * m) by grind) (show 1 ≤ -(y * n) by grind); right; left; grind
def Bd (u : Nat) (v : Rat) : Prop := -pw u ≤ v ∧ v ≤ pw u
theorem Gr.div {M U : Nat} {x y : Rat} (a : Gr M x) (b : Bd U y) : Gr (M + U) (x / y) := by
  by_cases hy : y = 0
  · left; rw [hy, Rat.div_def, show (0 : Rat)⁻¹ = 0 by grind, Rat.mul_zero]
  · have e : x / y * y = x := Rat.div_mul_cancel hy
    unfold Gr Bd at *
    rw [pw_add]
    have pm := pw_pos M
    generalize pw M = m at *
    generalize pw U = u at *
    generalize x / y = w at *
    obtain ⟨b1, b2⟩ := b
    have e2 : w * y * m = x * m := by rw [e]
    rcases (Rat.le_total : 0 ≤ w ∨ w ≤ 0) with k | k
    · have k1 := Rat.mul_nonneg (Rat.mul_nonneg k (Rat.le_of_lt pm)) (show 0 ≤ u - y by grind)
      have k2 := Rat.mul_nonneg (Rat.mul_nonneg k (Rat.le_of_lt pm)) (show 0 ≤ u + y by grind)
      rcases a with a | a | a
      · left
        rw [a] at e
        rcases Rat.mul_eq_zero.1 e with h | h
        · exact h
        · exact absurd h hy
      · right; left; grind
      · right; left; grind
    · have k1 := Rat.mul_nonneg (Rat.mul_nonneg (show 0 ≤ -w by grind) (Rat.le_of_lt pm)) (show 0 ≤ u - y by grind)
      have k2 := Rat.mul_nonneg (Rat.mul_nonneg (show 0 ≤ -w by grind) (Rat.le_of_lt pm)) (show 0 ≤ u + y by grind)
      rcases a with a | a | a
      · left
        rw [a] at e
        rcases Rat.mul_eq_zero.1 e with h | h
        · exact h
        · exact absurd h hy
      · right; right; grind
      · right; right; grind
theorem man_lt (r : Nat) : man r < 2 * P := by
  unfold man
  have hP := P_pos
  split
  · omega
  · have := Nat.mod_lt r hP; omega
/-- a number that is not small is a whole number of grains -/
theorem F.mult {x : F} {M : Nat} (h : Gr M x.q) (hM : M + 52 ≤ 1074) : ∃ n : Int, x.q * pw (M + 52) = (n : Rat) := by
  have hz := F.q_mul x
  rw [pw_S] at hz
  have hs := nvZ_sign x.k
  rw [show nvZ x.k = x.z from rfl] at hs
  obtain ⟨L, hL⟩ : ∃ L, 1074 = M + 52 + L := ⟨1074 - (M + 52), by omega⟩
  by_cases c : L ≤ pl x.k.natAbs
  · obtain ⟨c, hc⟩ := Nat.exists_eq_add_of_le c
    refine ⟨(if decide (x.k < 0) then -1 else 1) * ((man x.k.natAbs * 2 ^ c : Nat) : Int), ?_⟩
    have e : x.z = (if decide (x.k < 0) then -1 else 1) * ((man x.k.natAbs * 2 ^ c : Nat) : Int) * ((2 ^ L : Nat) : Int) := by
      rw [hs, hc, Nat.add_comm L c, Nat.pow_add, ← Nat.mul_assoc, Int.natCast_mul (man x.k.natAbs * 2 ^ c), Int.mul_assoc]
    rw [e, hL, pw_add, Rat.intCast_mul, Rat.intCast_natCast (2 ^ L)] at hz
    have pL := pw_pos L
    have eL : ((2 ^ L : Nat) : Rat) = pw L := by unfold pw; rfl
    rw [eL] at hz
    generalize (((if decide (x.k < 0) then -1 else 1) * ((man x.k.natAbs * 2 ^ c : Nat) : Int) : Int) : Rat) = n at *
    have : (x.q * pw (M + 52) - n) * pw L = 0 := by grind
    rcases Rat.mul_eq_zero.1 this with k | k
    · grind
    · grind
  · refine ⟨0, ?_⟩
    have c := Nat.lt_of_not_le c
    have hm := man_lt x.k.natAbs
    have hP : 2 * P = 2 ^ 53 := rfl
    have hb : man x.k.natAbs * 2 ^ pl x.k.natAbs < 2 ^ (52 + L) := by
      have h1 : man x.k.natAbs * 2 ^ pl x.k.natAbs < 2 ^ 53 * 2 ^ pl x.k.natAbs := Nat.mul_lt_mul_of_pos_right (by omega) (Nat.two_pow_pos _)
      have h2 : 2 ^ 53 * 2 ^ pl x.k.natAbs ≤ 2 ^ (52 + L) := by
        rw [← Nat.pow_add]; exact Nat.pow_le_pow_right (by decide) (by omega)
      omega
    have hb' : ((man x.k.natAbs * 2 ^ pl x.k.natAbs : Nat) : Rat) < pw (52 + L) := by
      unfold pw; exact Rat.natCast_lt_natCast.2 hb
    have hn := natq_nn (man x.k.natAbs * 2 ^ pl x.k.natAbs)
    have e : (x.z : Rat) = ((man x.k.natAbs * 2 ^ pl x.k.natAbs : Nat) : Rat) ∨ (x.z : Rat) = -((man x.k.natAbs * 2 ^ pl x.k.natAbs : Nat) : Rat) := by
      rw [hs]
      split
      · right
        rw [Rat.intCast_mul, Rat.intCast_natCast]
        show (-1 : Rat) * _ = _
        grind
      · left
        rw [Int.one_mul, Rat.intCast_natCast]
    generalize ((man x.k.natAbs * 2 ^ pl x.k.natAbs : Nat) : Rat) = a at *
    rw [show (1074 : Nat) = M + (52 + L) by omega, pw_add] at hz
    have pm := pw_pos (52 + L)
    generalize pw (52 + L) = w at *
    have z0 : x.q = 0 := by
      rcases h with h | h | h
      · exact h
      · exfalso
        have := Rat.mul_nonneg (show 0 ≤ x.q * pw M - 1 by grind) (Rat.le_of_lt pm)
        grind
      · exfalso
        have := Rat.mul_nonneg (show 0 ≤ -1 - x.q * pw M by grind) (Rat.le_of_lt pm)
        grind
    rw [z0, Rat.zero_mul]; rfl
theorem gr_int {v : Rat} {n : Int} {K : Nat} (h : v * pw K = (n : Rat)) : Gr K v := by
  unfold Gr
  rcases Int.lt_trichotomy n 0 with k | k | k
  · right; right
    rw [h]
    exact Rat.intCast_le_intCast.2 (show n ≤ -1 by omega)
  · left
    rw [k] at h
    have h' : v * pw K = 0 := h
    rcases Rat.mul_eq_zero.1 h' with g | g
    · exact g
    · have := pw_pos K; grind
  · right; left
    rw [h]
    exact Rat.intCast_le_intCast.2 (show 1 ≤ n by omega)
theorem gr_add {x y : F} {M N : Nat} (hx : Gr M x.q) (hy : Gr N y.q) (hM : max M N + 52 ≤ 1074) : Gr (max M N + 52) (x.q + y.q) := by
  obtain ⟨n, hn⟩ := F.mult (hx.mono (Nat.le_max_left M N)) hM
  obtain ⟨m, hm⟩ := F.mult (hy.mono (Nat.le_max_right M N)) hM
  refine gr_int (n := n + m) ?_
  rw [Rat.intCast_add, ← hn, ← hm]; grind
theorem pw_F {M : Nat} (h : M ≤ 1074) : ∃ c : F, c.q * pw M = 1 := by
  obtain ⟨c, hc⟩ := grid 1 (by decide) M h (by omega)
  refine ⟨c, ?_⟩
  unfold pw
  exact hc
theorem Dn.gr {r : F} {v : Rat} {M : Nat} (h : Dn r v) (g : Gr M v) (hM : M ≤ 1074) : Gr M r.q := by
  obtain ⟨c, hc⟩ := pw_F hM
  have p := pw_pos M
  have l := h.le
  unfold Gr at *
  rcases g with g | g | g
  · left
    have := h.top F.zero (by rw [q_zero, g]; exact Rat.le_refl)
    rw [q_zero] at this
    grind
  · right; left
    have cv : c.q ≤ v := by
      apply Rat.not_lt.1
      intro k
      have := Rat.mul_pos (show 0 < c.q - v by grind) p
      grind
    have := h.top c cv
    have := Rat.mul_nonneg (show 0 ≤ r.q - c.q by grind) (Rat.le_of_lt p)
    grind
  · right; right
    have := Rat.mul_nonneg (show 0 ≤ v - r.q by grind) (Rat.le_of_lt p)
    grind
theorem Up.dnN {r : F} {v : Rat} (h : Up r v) : Dn r.neg (-v) := ⟨by rw [q_neg]; have := h.ge; grind, fun c hc => by
  have := h.bot c.neg (by rw [q_neg]; grind)
  rw [q_neg] at *; grind⟩
theorem Up.gr {r : F} {v : Rat} {M : Nat} (h : Up r v) (g : Gr M v) (hM : M ≤ 1074) : Gr M r.q := by
  have := (h.dnN.gr g.neg hM).neg
  rw [q_neg] at this
  rwa [show - -r.q = r.q by grind] at this
/-- an end's grain (beyond 1022: nothing is told), and how great it is -/
def EQ (g : Nat × Option Nat) (v : Rat) : Prop := (g.1 ≤ 1022 → Gr g.1 v) ∧ ∀ u, g.2 = some u → Bd u v
theorem bd_F {u : Nat} (h : u ≤ 52) : ∃ c : F, c.q = pw u := by
  obtain ⟨c, hc⟩ := grid (2 ^ u) (by
    have := Nat.pow_le_pow_right (n := 2) (by decide) h
    have e : ((2 : Int) ^ u).natAbs = 2 ^ u := by rw [Int.natAbs_pow]; rfl
    omega) 0 (by omega) (by omega)
  refine ⟨c, ?_⟩
  have e0 : ((2 ^ 0 : Nat) : Rat) = 1 := rfl
  rw [e0, Rat.mul_one] at hc
  rw [hc]
  unfold pw
  rw [← Rat.intCast_natCast]
  congr 1
def trim : Option Nat → Option Nat
  | some u => if u ≤ 52 then some u else none
  | none => none
theorem trim_some {o : Option Nat} {u : Nat} (h : trim o = some u) : o = some u ∧ u ≤ 52 := by
  unfold trim at h
  split at h
  · split at h
    · injection h with h; subst h; exact ⟨rfl, by assumption⟩
    · cases h
  · cases h
def limG (g : Nat × Option Nat) : Nat × Option Nat := (g.1, trim g.2)
theorem lim_rnd {g : Nat × Option Nat} {r : F} {v : Rat} (e : EQ g v) (d : Dn r v ∨ Up r v) : EQ (limG g) r.q := by
  refine ⟨fun hg => ?_, fun u hu => ?_⟩
  · have hg : g.1 ≤ 1022 := hg
    rcases d with d | d
    · exact d.gr (e.1 hg) (by omega)
    · exact d.gr (e.1 hg) (by omega)
  · obtain ⟨h1, h2⟩ := trim_some hu
    obtain ⟨b1, b2⟩ := e.2 u h1
    obtain ⟨c, hc⟩ := bd_F h2
    rcases d with d | d
    · have := d.le; have := d.top c.neg (by rw [q_neg, hc]; exact b1)
      rw [q_neg, hc] at this
      exact ⟨this, by grind⟩
    · have := d.ge; have := d.bot c (by rw [hc]; exact b2)
      rw [hc] at this
      exact ⟨by grind, this⟩
structure GrI (g : Nat × Option Nat) (a : I) : Prop where
  lo : EQ g a.lo.q
  hi : EQ g a.hi.q
def o2 (f : Nat → Nat → Nat) : Option Nat → Option Nat → Option Nat
  | some a, some b => some (f a b)
  | _, _ => none
theorem o2_some {f : Nat → Nat → Nat} {a b : Option Nat} {u : Nat} (h : o2 f a b = some u) : ∃ x y, a = some x ∧ b = some y ∧ u = f x y := by
  unfold o2 at h
  split at h
  · injection h with h; exact ⟨_, _, rfl, rfl, h.symm⟩
  · cases h
theorem eq_add {g h : Nat × Option Nat} {x y : F} (a : EQ g x.q) (b : EQ h y.q) : EQ (max g.1 h.1 + 52, o2 (fun u w => max u w + 1) g.2 h.2) (x.q + y.q) := by
  refine ⟨fun hM => ?_, fun u hu => ?_⟩
  · have hM : max g.1 h.1 + 52 ≤ 1022 := hM
    exact gr_add (a.1 (by omega)) (b.1 (by omega)) (by omega)
  · obtain ⟨p, q, e1, e2, rfl⟩ := o2_some hu
    obtain ⟨a1, a2⟩ := a.2 p e1
    obtain ⟨b1, b2⟩ := b.2 q e2
    have m1 := pw_mono (Nat.le_max_left p q)
    have m2 := pw_mono (Nat.le_max_right p q)
    unfold Bd
    rw [pw_add, pw_one]
    constructor <;> grind
theorem EQ.neg {g : Nat × Option Nat} {v : Rat} (a : EQ g v) : EQ g (-v) := ⟨fun h => (a.1 h).neg, fun u hu => by have := a.2 u hu; unfold Bd at *; constructor <;> grind⟩
theorem eq_sub {g h : Nat × Option Nat} {x y : F} (a : EQ g x.q) (b : EQ h y.q) : EQ (max g.1 h.1 + 52, o2 (fun u w => max u w + 1) g.2 h.2) (x.q - y.q) := by
  have := eq_add (x := x) (y := y.neg) a (by rw [q_neg]; exact b.neg)
  rw [q_neg] at this
  rwa [show x.q + -y.q = x.q - y.q by grind] at this
theorem eq_mul {g h : Nat × Option Nat} {x y : Rat} (a : EQ g x) (b : EQ h y) : EQ (g.1 + h.1, o2 (· + ·) g.2 h.2) (x * y) := by
  refine ⟨fun hM => ?_, fun u hu => ?_⟩
  · have hM : g.1 + h.1 ≤ 1022 := hM
    exact (a.1 (by omega)).mul (b.1 (by omega))
  · obtain ⟨p, q, e1, e2, rfl⟩ := o2_some hu
    obtain ⟨a1, a2⟩ := a.2 p e1
    obtain ⟨b1, b2⟩ := b.2 q e2
    unfold Bd
    rw [pw_add]
    have k1 := Rat.mul_nonneg (show 0 ≤ pw p - x by grind) (show 0 ≤ pw q - y by grind)
    have k2 := Rat.mul_nonneg (show 0 ≤ pw p + x by grind) (show 0 ≤ pw q + y by grind)
    have k3 := Rat.mul_nonneg (show 0 ≤ pw p - x by grind) (show 0 ≤ pw q + y by grind)
    have k4 := Rat.mul_nonneg (show 0 ≤ pw p + x by grind) (show 0 ≤ pw q - y by grind)
    constructor <;> grind
theorem all_lim {g : Nat × Option Nat} {r : I} {p q s t : Rat} (d : AllR r p q s t) (h1 : EQ g p) (h2 : EQ g q) (h3 : EQ g s) (h4 : EQ g t) : GrI (limG g) r := by
  constructor
  · rcases d.loE with e | e | e | e
    · exact lim_rnd h1 (.inl e)
    · exact lim_rnd h2 (.inl e)
    · exact lim_rnd h3 (.inl e)
    · exact lim_rnd h4 (.inl e)
  · rcases d.hiE with e | e | e | e
    · exact lim_rnd h1 (.inr e)
    · exact lim_rnd h2 (.inr e)
    · exact lim_rnd h3 (.inr e)
    · exact lim_rnd h4 (.inr e)
theorem EQ.mono {g h : Nat × Option Nat} {v : Rat} (a : EQ g v) (k : g.1 ≤ h.1) (b : ∀ u, h.2 = some u → ∃ w, g.2 = some w ∧ w ≤ u) : EQ h v := by
  refine ⟨fun l => (a.1 (by omega)).mono k, fun u hu => ?_⟩
  obtain ⟨w, e, l⟩ := b u hu
  have := a.2 w e
  have := pw_mono l
  unfold Bd at *
  constructor <;> grind
/-- of which nothing is told -/
def gNo : Nat × Option Nat := (9999, none)
theorem eq_no (v : Rat) : EQ gNo v := ⟨fun h => absurd (show (9999 : Nat) ≤ 1022 from h) (by decide), fun u h => by cases h⟩
theorem gr_no (a : I) : GrI gNo a := ⟨eq_no _, eq_no _⟩
/-- constants -/
def cst (x : F) : Nat × Option Nat := if x.k = 0 then (0, some 0) else if x.k = one64.k then (0, some 0) else if x.k = mone64.k then (0, some 0) else if x.k = q2.k then (1, some 0) else gNo
theorem cst_ok (x : F) : EQ (cst x) x.q := by
  unfold cst
  split
  · next k =>
    have e : x = F.zero := F.ext' k
    rw [e, q_zero]
    exact ⟨fun _ => Gr.zero, fun u hu => by injection hu with hu; subst hu; unfold Bd; rw [pw_zero]; constructor <;> grind⟩
  · split
    · next k =>
      have e : x = one64 := F.ext' k
      rw [e, one_q]
      exact ⟨fun _ => Gr.one, fun u hu => by injection hu with hu; subst hu; unfold Bd; rw [pw_zero]; constructor <;> grind⟩
    · split
      · next k =>
        have e : x = mone64 := F.ext' k
        rw [e, mone_q]
        exact ⟨fun _ => Gr.one.neg, fun u hu => by injection hu with hu; subst hu; unfold Bd; rw [pw_zero]; constructor <;> grind⟩
      · split
        · next k =>
          have e : x = q2 := F.ext' k
          have e2 : q2.q = 1 / 2 := by have := consts.2.2.2.2.2.1; grind
          rw [e, e2]
          refine ⟨fun _ => ?_, fun u hu => by injection hu with hu; subst hu; unfold Bd; rw [pw_zero]; constructor <;> grind⟩
          right; left
          show 1 ≤ 1 / 2 * pw 1
          rw [pw_one]; grind
        · exact eq_no _
def g0 : Nat × Option Nat := (0, some 0)
theorem I.two {a b : I} (h1 : a.lo = b.lo) (h2 : a.hi = b.hi) : a = b := by cases a; cases b; simp only at h1 h2; subst h1; subst h2; rfl
def grS (o : Bu.Op) (g : List (Nat × Option Nat)) : Nat × Option Nat :=
  match o with
  | .add i j | .sub i j => limG (max (g.getD i g0).1 (g.getD j g0).1 + 52, o2 (fun u w => max u w + 1) (g.getD i g0).2 (g.getD j g0).2)
  | .mul i j => limG ((g.getD i g0).1 + (g.getD j g0).1, o2 (· + ·) (g.getD i g0).2 (g.getD j g0).2)
  | .div i j => match (g.getD j g0).2 with
    | some u => limG ((g.getD i g0).1 + u, none)
    | none => gNo
  | .max i j => (max (g.getD i g0).1 (g.getD j g0).1, o2 max (g.getD i g0).2 (g.getD j g0).2)
  | .sqr i => limG ((g.getD i g0).1 + (g.getD i g0).1, o2 (· + ·) (g.getD i g0).2 (g.getD i g0).2)
  | .sqrt i => (if (g.getD i g0).1 ≤ 1022 then ((g.getD i g0).1 + 1) / 2 else 9999, trim (g.getD i g0).2)
  | .neg i => g.getD i g0
  | .num x => cst x
  | .lit a => if a.lo.k = 0 ∧ a.hi.k = 0 then g0 else gNo
  | .kept l h i => if (l.k = 0 ∨ l.k = mone64.k) ∧ h.k = one64.k then ((g.getD i g0).1, some 0) else gNo
  | .wi i => ((g.getD i g0).1, some 0)
  | _ => gNo
theorem bare_or (a : I) : ((bareI a).lo = a.lo ∧ (bareI a).hi = a.hi) ∨ ((bareI a).lo = a.hi.neg ∧ (bareI a).hi = a.lo.neg) ∨ ((bareI a).lo = F.zero ∧ ((bareI a).hi = a.hi ∨ (bareI a).hi = a.lo.neg)) := by
  unfold bareI
  cases decide (0 ≤ a.lo.k)
  · cases decide (a.hi.k ≤ 0)
    · exact .inr (.inr ⟨rfl, mxF_or _ _⟩)
    · exact .inr (.inl ⟨rfl, rfl⟩)
  · exact .inl ⟨rfl, rfl⟩
theorem eq_zero {g : Nat × Option Nat} : EQ g 0 := ⟨fun _ => Gr.zero, fun u _ => by have := pw_pos u; unfold Bd; constructor <;> grind⟩
theorem eq_bare {g : Nat × Option Nat} {a : I} (h : GrI g a) : EQ g (bareI a).lo.q ∧ EQ g (bareI a).hi.q := by
  have n1 : EQ g a.lo.neg.q := by rw [q_neg]; exact h.lo.neg
  have n2 : EQ g a.hi.neg.q := by rw [q_neg]; exact h.hi.neg
  have z : EQ g F.zero.q := by rw [q_zero]; exact eq_zero
  rcases bare_or a with ⟨e1, e2⟩ | ⟨e1, e2⟩ | ⟨e1, e2 | e2⟩ <;> rw [e1, e2]
  · exact ⟨h.lo, h.hi⟩
  · exact ⟨n2, n1⟩
  · exact ⟨z, h.hi⟩
  · exact ⟨z, n1⟩
theorem gr_root_dn {r a : F} {M : Nat} (h : SqD r a) (g : Gr M a.q) (hM : M ≤ 1074) : Gr ((M + 1) / 2) r.q := by
  obtain ⟨c, hc⟩ := pw_F (M := (M + 1) / 2) (by omega)
  have p := pw_pos ((M + 1) / 2)
  have nn := h.nn
  have le := h.le
  have hm : pw M ≤ pw ((M + 1) / 2) * pw ((M + 1) / 2) := by rw [← pw_add]; exact pw_mono (by omega)
  have a0 : 0 ≤ a.q := by have := sq_nn r.q; grind
  unfold Gr at *
  generalize pw ((M + 1) / 2) = h1 at *
  have pm := pw_pos M
  rcases g with g | g | g
  · left
    rw [g] at le
    have : r.q * r.q = 0 := by have := sq_nn r.q; grind
    rcases Rat.mul_eq_zero.1 this with k | k <;> exact k
  · right; left
    have c0 : 0 ≤ c.q := by
      apply Rat.not_lt.1
      intro k
      have := Rat.mul_pos (show 0 < -c.q by grind) p
      grind
    have cc : c.q * c.q ≤ a.q := by
      have h2 := Rat.mul_nonneg a0 (show 0 ≤ h1 * h1 - pw M by grind)
      refine Rat.le_of_mul_le_mul_right (c := h1 * h1) ?_ (Rat.mul_pos p p)
      have : c.q * c.q * (h1 * h1) = c.q * h1 * (c.q * h1) := by grind
      rw [this, hc]; grind
    have t := h.top c c0 cc
    have := Rat.mul_nonneg (show 0 ≤ r.q - c.q by grind) (Rat.le_of_lt p)
    grind
  · exfalso
    have := Rat.mul_nonneg a0 (Rat.le_of_lt pm)
    grind
theorem gr_root_up {r a : F} {M : Nat} (h : SqU r a) (g : Gr M a.q) (a0 : 0 ≤ a.q) : Gr ((M + 1) / 2) r.q := by
  have p := pw_pos ((M + 1) / 2)
  have nn := h.nn
  have ge := h.ge
  have hm : pw M ≤ pw ((M + 1) / 2) * pw ((M + 1) / 2) := by rw [← pw_add]; exact pw_mono (by omega)
  unfold Gr at *
  generalize pw ((M + 1) / 2) = h1 at *
  have pm := pw_pos M
  rcases g with g | g | g
  · left
    have := h.bot F.zero (by rw [q_zero]; exact Rat.le_refl) (by rw [q_zero, g]; grind)
    rw [q_zero] at this
    grind
  · right; left
    have h2 := Rat.mul_nonneg a0 (show 0 ≤ h1 * h1 - pw M by grind)
    have h3 := Rat.mul_nonneg (show 0 ≤ r.q * r.q - a.q by grind) (Rat.le_of_lt (Rat.mul_pos p p))
    refine sq_le' (by grind) (Rat.mul_nonneg nn (Rat.le_of_lt p)) ?_
    grind
  · exfalso
    have := Rat.mul_nonneg a0 (Rat.le_of_lt pm)
    grind
theorem root_bd {u : Nat} {r v : Rat} (hu : Bd u v) (r0 : 0 ≤ r) (h : r * r ≤ v) : Bd u r := by
  have p := pw_ge u
  refine ⟨by grind, sq_le' r0 (by grind) ?_⟩
  have := Rat.mul_nonneg (show 0 ≤ pw u by grind) (show 0 ≤ pw u - 1 by grind)
  have := hu.2
  grind
theorem mx_EQ {g : Nat × Option Nat} {x y : F} (a : EQ g x.q) (b : EQ g y.q) : EQ g (mxF x y).q := by rcases mxF_or x y with e | e <;> rw [e] <;> assumption
theorem mn_EQ {g : Nat × Option Nat} {x y : F} (a : EQ g x.q) (b : EQ g y.q) : EQ g (mnF x y).q := by rcases mnF_or x y with e | e <;> rw [e] <;> assumption
theorem bd0 {x : F} (h : mone64.k ≤ x.k) (k : x.k ≤ one64.k) : Bd 0 x.q := by
  have a := q_le.2 h; have b := q_le.2 k
  rw [mone_q] at a; rw [one_q] at b
  unfold Bd; rw [pw_zero]
  exact ⟨a, b⟩
theorem grS_ok {o : Bu.Op} {g : List (Nat × Option Nat)} {v : List I} {x : I} (hv : ∀ i, GrI (g.getD i g0) (gt v i)) (f : Fact o v x) : GrI (grS o g) x := by
  cases o with
  | add i j =>
    have a := hv i; have b := hv j
    exact ⟨lim_rnd (eq_add a.lo b.lo) (.inl f.1), lim_rnd (eq_add a.hi b.hi) (.inr f.2)⟩
  | sub i j =>
    have a := hv i; have b := hv j
    exact ⟨lim_rnd (eq_sub a.lo b.hi) (.inl f.1), lim_rnd (eq_sub a.hi b.lo) (.inr f.2)⟩
  | mul i j =>
    have a := hv i; have b := hv j
    exact all_lim f (eq_mul a.lo b.lo) (eq_mul a.lo b.hi) (eq_mul a.hi b.lo) (eq_mul a.hi b.hi)
  | div i j =>
    have a := hv i; have b := hv j
    unfold grS
    simp only
    split
    · next u hu =>
      have dv : ∀ {p q : Rat}, EQ (g.getD i g0) p → EQ (g.getD j g0) q → EQ ((g.getD i g0).1 + u, none) (p / q) := fun a b => ⟨fun h => (a.1 (by have : (g.getD i g0).1 + u ≤ 1022 := h; omega)).div (b.2 u hu), fun _ k => by cases k⟩
      exact all_lim f.2 (dv a.lo b.lo) (dv a.lo b.hi) (dv a.hi b.lo) (dv a.hi b.hi)
    · exact gr_no _
  | max i j =>
    have a := hv i; have b := hv j
    have k1 : ∀ {p : Rat}, EQ (g.getD i g0) p → EQ (max (g.getD i g0).1 (g.getD j g0).1, o2 max (g.getD i g0).2 (g.getD j g0).2) p := fun a => a.mono (Nat.le_max_left _ _) fun u hu => by
      obtain ⟨x, y, e1, e2, rfl⟩ := o2_some hu
      exact ⟨x, e1, Nat.le_max_left _ _⟩
    have k2 : ∀ {p : Rat}, EQ (g.getD j g0) p → EQ (max (g.getD i g0).1 (g.getD j g0).1, o2 max (g.getD i g0).2 (g.getD j g0).2) p := fun a => a.mono (Nat.le_max_right _ _) fun u hu => by
      obtain ⟨x, y, e1, e2, rfl⟩ := o2_some hu
      exact ⟨y, e2, Nat.le_max_right _ _⟩
    rw [show x = _ from f]
    exact ⟨mx_EQ (k1 a.lo) (k2 b.lo), mx_EQ (k1 a.hi) (k2 b.hi)⟩
  | sqr i =>
    have a := hv i
    obtain ⟨b1, b2⟩ := eq_bare a
    exact ⟨lim_rnd (eq_mul b1 b1) (.inl f.1), lim_rnd (eq_mul b2 b2) (.inr f.2)⟩
  | sqrt i =>
    have a := hv i
    obtain ⟨f0, f1, f2⟩ := f
    have lo1 := f1.nn
    have hi0 : 0 ≤ (gt v i).hi.q ∨ (gt v i).hi.q < 0 := by
      by_cases c : 0 ≤ (gt v i).hi.q
      · exact .inl c
      · exact .inr (Rat.not_le.1 c)
    have gr : ∀ {n : Nat}, (if n ≤ 1022 then (n + 1) / 2 else 9999) ≤ 1022 → n ≤ 1022 ∧ (if n ≤ 1022 then (n + 1) / 2 else 9999) = (n + 1) / 2 := by
      intro n h
      split at h
      · next c => exact ⟨c, by rw [if_pos c]⟩
      · omega
    refine ⟨⟨fun hg => ?_, fun u hu => ?_⟩, ⟨fun hg => ?_, fun u hu => ?_⟩⟩
    · obtain ⟨g1, g2⟩ := gr (show (if (g.getD i g0).1 ≤ 1022 then ((g.getD i g0).1 + 1) / 2 else 9999) ≤ 1022 from hg)
      show Gr (if (g.getD i g0).1 ≤ 1022 then ((g.getD i g0).1 + 1) / 2 else 9999) _
      rw [g2]
      exact gr_root_dn f1 (a.lo.1 g1) (by omega)
    · obtain ⟨h1, _⟩ := trim_some hu
      exact root_bd (a.lo.2 u h1) f1.nn f1.le
    · obtain ⟨g1, g2⟩ := gr (show (if (g.getD i g0).1 ≤ 1022 then ((g.getD i g0).1 + 1) / 2 else 9999) ≤ 1022 from hg)
      show Gr (if (g.getD i g0).1 ≤ 1022 then ((g.getD i g0).1 + 1) / 2 else 9999) _
      rw [g2]
      rcases hi0 with k | k
      · exact gr_root_up f2 (a.hi.1 g1) k
      · left
        have := f2.bot F.zero (by rw [q_zero]; exact Rat.le_refl) (by rw [q_zero]; grind)
        rw [q_zero] at this
        have := f2.nn
        show x.hi.q = 0
        grind
    · obtain ⟨h1, h2⟩ := trim_some hu
      obtain ⟨c, hc⟩ := bd_F h2
      have p := pw_ge u
      have b := (a.hi.2 u h1).2
      have := f2.bot c (by rw [hc]; grind) (by
        rw [hc]
        have := Rat.mul_nonneg (show 0 ≤ pw u by grind) (show 0 ≤ pw u - 1 by grind)
        grind)
      rw [hc] at this
      have nn := f2.nn
      exact ⟨by show -pw u ≤ x.hi.q; grind, this⟩
  | neg i =>
    have a := hv i
    rw [show x = _ from f]
    refine ⟨?_, ?_⟩
    · show EQ _ (gt v i).hi.neg.q
      rw [q_neg]; exact a.hi.neg
    · show EQ _ (gt v i).lo.neg.q
      rw [q_neg]; exact a.lo.neg
  | num y =>
    rw [show x = _ from f]
    exact ⟨cst_ok y, cst_ok y⟩
  | lit a =>
    unfold grS
    simp only
    split
    · next k =>
      rw [show x = _ from f, show a = I.zero from I.two (F.ext' k.1) (F.ext' k.2)]
      refine ⟨?_, ?_⟩
      · show EQ g0 F.zero.q
        rw [q_zero]; exact eq_zero
      · show EQ g0 F.zero.q
        rw [q_zero]; exact eq_zero
    · exact gr_no _
  | fn f' i => exact gr_no _
  | fn2 f' i j => exact gr_no _
  | hid i => exact gr_no _
  | kept l u i =>
    have a := hv i
    unfold grS
    simp only
    split
    · next k =>
      have ok := one64_k
      have mk := mone64_k
      have el : EQ ((g.getD i g0).1, none) l.q := by
        refine ⟨fun _ => ?_, fun _ k => by cases k⟩
        rcases k.1 with k | k
        · rw [show l = F.zero from F.ext' k, q_zero]; exact Gr.zero
        · rw [show l = mone64 from F.ext' k, mone_q]; exact Gr.one.neg.mono (Nat.zero_le _)
      have eh : EQ ((g.getD i g0).1, none) u.q := by
        refine ⟨fun _ => ?_, fun _ k => by cases k⟩
        rw [show u = one64 from F.ext' k.2, one_q]; exact Gr.one.mono (Nat.zero_le _)
      have e1 : EQ ((g.getD i g0).1, none) (gt v i).lo.q := ⟨a.lo.1, fun _ k => by cases k⟩
      have e2 : EQ ((g.getD i g0).1, none) (gt v i).hi.q := ⟨a.hi.1, fun _ k => by cases k⟩
      rw [show x = _ from f]
      obtain ⟨r1, r2⟩ := keptI_k (gt v i) l u
      have lk : mone64.k ≤ l.k ∧ l.k ≤ one64.k := by rcases k.1 with k | k <;> omega
      have uk := k.2
      refine ⟨⟨(mn_EQ (mx_EQ e1 el) eh).1, fun w hw => ?_⟩, ⟨(mn_EQ (mx_EQ e2 el) eh).1, fun w hw => ?_⟩⟩
      · injection hw with hw; subst hw
        exact bd0 (by rw [r1]; omega) (by rw [r1]; omega)
      · injection hw with hw; subst hw
        exact bd0 (by rw [r2]; omega) (by rw [r2]; omega)
    · exact gr_no _
  | wi i =>
    have a := hv i
    rw [show x = _ from f]
    have e1 : EQ ((g.getD i g0).1, none) (gt v i).lo.q := ⟨a.lo.1, fun _ k => by cases k⟩
    have e2 : EQ ((g.getD i g0).1, none) (gt v i).hi.q := ⟨a.hi.1, fun _ k => by cases k⟩
    have o1 : EQ ((g.getD i g0).1, none) one64.q := ⟨fun _ => by rw [one_q]; exact Gr.one.mono (Nat.zero_le _), fun _ k => by cases k⟩
    have o2 : EQ ((g.getD i g0).1, none) mone64.q := ⟨fun _ => by rw [mone_q]; exact Gr.one.neg.mono (Nat.zero_le _), fun _ k => by cases k⟩
    have z0 : EQ ((g.getD i g0).1, none) F.zero.q := ⟨fun _ => by rw [q_zero]; exact Gr.zero, fun _ k => by cases k⟩
    have i1 := withI_in (gt v i)
    refine ⟨⟨fun hg => ?_, fun w hw => by injection hw with hw; subst hw; exact bd0 i1.lo (Int.le_trans i1.rt i1.hi)⟩, ⟨fun hg => ?_, fun w hw => by injection hw with hw; subst hw; exact bd0 (Int.le_trans i1.lo i1.rt) i1.hi⟩⟩
    · show Gr _ (withI (gt v i)).lo.q
      unfold withI
      cases decide ((mnF (gt v i).hi one64).k < (mxF (gt v i).lo mone64).k)
      · exact (mx_EQ e1 o2).1 hg
      · exact z0.1 hg
    · show Gr _ (withI (gt v i)).hi.q
      unfold withI
      cases decide ((mnF (gt v i).hi one64).k < (mxF (gt v i).lo mone64).k)
      · exact (mn_EQ e2 o1).1 hg
      · exact z0.1 hg
def grRun : List Bu.Op → List (Nat × Option Nat) → List (Nat × Option Nat)
  | [], g => g
  | o :: l, g => grRun l (grS o g :: g)
theorem grRun_ok : ∀ {l : List Bu.Op} {g : List (Nat × Option Nat)} {v u : List I}, (∀ i, GrI (g.getD i g0) (gt v i)) → Chain l v u → ∀ i, GrI ((grRun l g).getD i g0) (gt u i)
  | [], g, v, u, hv, c => by
    rw [show u = v from c]; exact hv
  | o :: l, g, v, u, hv, c => by
    obtain ⟨r, f, c⟩ := c
    refine grRun_ok (l := l) (g := grS o g :: g) (fun i => ?_) c
    match i with
    | 0 => exact grS_ok hv f
    | i + 1 => exact hv i
end Bu
