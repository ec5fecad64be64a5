/- The sign of what a sum lacks, as six sums tell it (of any two numbers, in any order), over whole numbers. Nearest numbers by their places on the ladder; a number's neighbours; on which side of a number what is real is. Scaled by powers of two: roundings one after the other; products, quotients and sums of products, rounded. The float operations of the document's answers, over numbers of the ladder: products, products and sums, quotients and roots of fractions. Numbers taken apart, and scaled, as math.Frexp and math.Ldexp do it: what comes of it. -/
import Derived.Test.YtmhhopfffeijnaaGreatZ01
namespace Bu
set_option linter.all false

/-- a number of the ladder without an end -/
def Rep (z : Int) : Prop := ∃ k : Int, nvZ k = z
theorem Rep.neg {z : Int} (h : Rep z) : Rep (-z) := by
  obtain ⟨k, rfl⟩ := h
  exact ⟨-k, nvZ_neg k⟩
theorem rep_nat {m s : Nat} (h : m ≤ 2 * P) : Rep ((m * 2 ^ s : Nat) : Int) := ⟨((fl (m * 2 ^ s) : Nat) : Int), by rw [nvZ_natCast, nv_fl_exact h]⟩
theorem rep_mk {m : Int} {s : Nat} (h : m.natAbs ≤ 2 * P) : Rep (m * ((2 ^ s : Nat) : Int)) := by
  obtain ⟨n, e | e⟩ : ∃ n : Nat, m = (n : Int) ∨ m = -(n : Int) := ⟨m.natAbs, by omega⟩
  · rw [e, ← Int.natCast_mul]
    exact rep_nat (by omega)
  · rw [e, Int.neg_mul, ← Int.natCast_mul]
    exact (rep_nat (by omega)).neg
theorem man_lt' (r : Nat) : man r < 2 * P := by
  unfold man
  have hP := P_pos
  split
  · omega
  · have := Nat.mod_lt r hP; omega
theorem rep_parts {z : Int} (h : Rep z) : ∃ (m : Int) (s : Nat), z = m * ((2 ^ s : Nat) : Int) ∧ m.natAbs < 2 * P ∧ (s = 0 ∨ P ≤ m.natAbs) := by
  obtain ⟨k, rfl⟩ := h
  have e : ((if decide (k < 0) then -1 else 1) * ((man k.natAbs : Nat) : Int)).natAbs = man k.natAbs := by split <;> omega
  refine ⟨(if decide (k < 0) then -1 else 1) * ((man k.natAbs : Nat) : Int), pl k.natAbs, ?_, ?_, ?_⟩
  · rw [nvZ_sign, Int.natCast_mul, Int.mul_assoc]
  · rw [e]; exact man_lt' _
  · rw [e]
    unfold man pl
    have hP := P_pos
    split
    · next c => left; rw [Nat.div_eq_of_lt c]
    · right; omega
theorem mul_abs (n : Int) (u : Nat) : (n * (u : Int)).natAbs = n.natAbs * u := by rw [Int.natAbs_mul, Int.natAbs_natCast]
theorem pow_split {i j : Nat} (h : i ≤ j) : ∃ d : Nat, 2 ^ j = d * 2 ^ i ∧ 0 < d := ⟨2 ^ (j - i), by rw [← Nat.pow_add]; congr 1; omega, Nat.two_pow_pos _⟩
theorem pow_lift {m : Int} {i j : Nat} (h : i ≤ j) : ∃ n : Int, m * ((2 ^ j : Nat) : Int) = n * ((2 ^ i : Nat) : Int) := by
  obtain ⟨d, e, _⟩ := pow_split h
  exact ⟨m * d, by rw [e, Int.natCast_mul, Int.mul_assoc]⟩

/-- a number of the ladder that is as near as any -/
def Nst (r v : Int) : Prop := Rep r ∧ ∀ c, Rep c → (r - v).natAbs ≤ (c - v).natAbs
theorem Nst.neg {r v : Int} (h : Nst r v) : Nst (-r) (-v) := ⟨h.1.neg, fun c hc => by have := h.2 _ hc.neg; omega⟩
theorem Nst.exact {r v : Int} (h : Nst r v) (k : Rep v) : r = v := by have := h.2 v k; omega
theorem rep_zero : Rep 0 := ⟨0, nvZ_zero⟩
theorem rep_one : Rep 1 := ⟨1, by decide⟩
theorem Nst.pos {r v : Int} (h : Nst r v) (k : 0 < v) : 0 < r := by have := h.2 1 rep_one; omega
theorem Nst.nn {r v : Int} (h : Nst r v) (k : 0 ≤ v) : 0 ≤ r := by have := h.2 0 rep_zero; omega
theorem Nst.ge {r v c : Int} (h : Nst r v) (hc : Rep c) (k : c ≤ v) : c ≤ r := by have := h.2 c hc; omega
theorem Nst.le {r v c : Int} (h : Nst r v) (hc : Rep c) (k : v ≤ c) : r ≤ c := by have := h.2 c hc; omega
theorem nst_near {r n : Int} {i : Nat} (h : Nst r (n * ((2 ^ i : Nat) : Int))) (hr : r.natAbs < 2 * P * 2 ^ i) : n.natAbs ≤ 2 * P := by
  apply Nat.le_of_not_lt
  intro c
  have q1 := h.2 _ (rep_nat (m := 2 * P) (s := i) (Nat.le_refl _))
  have q2 := h.2 _ (rep_nat (m := 2 * P) (s := i) (Nat.le_refl _)).neg
  have e := mul_abs n (2 ^ i)
  have l : (2 * P + 1) * 2 ^ i ≤ n.natAbs * 2 ^ i := Nat.mul_le_mul_right _ c
  rw [Nat.add_mul, Nat.one_mul] at l
  have p := Nat.two_pow_pos i
  generalize 2 * P * 2 ^ i = w at *
  generalize n.natAbs * 2 ^ i = k at *
  generalize n * ((2 ^ i : Nat) : Int) = v at *
  omega
theorem nst_mul {r v : Int} {i : Nat} (h : Nst r v) (hv : ∃ n : Int, v = n * ((2 ^ i : Nat) : Int)) : ∃ n : Int, r = n * ((2 ^ i : Nat) : Int) := by
  obtain ⟨n, rfl⟩ := hv
  obtain ⟨m, s, e, hm, hs⟩ := rep_parts h.1
  by_cases c : i ≤ s
  · rw [e]; exact pow_lift c
  · refine ⟨n, h.exact (rep_mk (nst_near h ?_))⟩
    rw [e, mul_abs]
    have h1 : m.natAbs * 2 ^ s < 2 * P * 2 ^ s := Nat.mul_lt_mul_of_pos_right hm (Nat.two_pow_pos s)
    have h2 : 2 * P * 2 ^ s ≤ 2 * P * 2 ^ i := Nat.mul_le_mul_left _ (Nat.pow_le_pow_right (by decide) (by omega))
    omega
theorem coarse {a b m : Int} {i : Nat} (ea : a = m * ((2 ^ i : Nat) : Int)) (hm : i = 0 ∨ P ≤ m.natAbs) (hb : Rep b) (h : a.natAbs ≤ b.natAbs) : ∃ n : Int, b = n * ((2 ^ i : Nat) : Int) := by
  obtain ⟨n, j, eb, hn, _⟩ := rep_parts hb
  by_cases c : i ≤ j
  · rw [eb]; exact pow_lift c
  · exfalso
    rw [ea, eb, mul_abs, mul_abs] at h
    have hP : P ≤ m.natAbs := by omega
    have h1 : n.natAbs * 2 ^ j < 2 * P * 2 ^ j := Nat.mul_lt_mul_of_pos_right hn (Nat.two_pow_pos j)
    have h2 : P * 2 ^ i ≤ m.natAbs * 2 ^ i := Nat.mul_le_mul_right _ hP
    have h3 : P * (2 * 2 ^ j) ≤ P * 2 ^ i := Nat.mul_le_mul_left _ (by
      have : 2 ^ (j + 1) ≤ 2 ^ i := Nat.pow_le_pow_right (by decide) (by omega)
      rw [Nat.pow_succ] at this; omega)
    rw [← Nat.mul_assoc, Nat.mul_comm P 2] at h3
    omega
theorem rep_small {a b : Int} (ha : Rep a) (hb : Rep b) (h : a.natAbs ≤ b.natAbs) (k : (a + b).natAbs ≤ a.natAbs) : Rep (a + b) := by
  obtain ⟨m, i, ea, hm, hs⟩ := rep_parts ha
  obtain ⟨n, eb⟩ := coarse ea hs hb h
  have hsum : a + b = (m + n) * ((2 ^ i : Nat) : Int) := by rw [ea, eb, Int.add_mul]
  rw [hsum, ea, mul_abs, mul_abs] at k
  have := Nat.le_of_mul_le_mul_right k (Nat.two_pow_pos i)
  rw [hsum]
  exact rep_mk (by omega)
theorem rep_err {a b c : Int} (ha : Rep a) (hb : Rep b) (h : a.natAbs ≤ b.natAbs) (k : Nst c (a + b)) : Rep (c - (a + b)) := by
  obtain ⟨m, i, ea, hm, hs⟩ := rep_parts ha
  obtain ⟨n, eb⟩ := coarse ea hs hb h
  have hsum : a + b = (m + n) * ((2 ^ i : Nat) : Int) := by rw [ea, eb, Int.add_mul]
  obtain ⟨q, ec⟩ := nst_mul k ⟨_, hsum⟩
  have hd : c - (a + b) = (q - (m + n)) * ((2 ^ i : Nat) : Int) := by rw [ec, hsum, Int.sub_mul]
  have h1 := k.2 b hb
  rw [hd]
  apply rep_mk
  have e1 := mul_abs (q - (m + n)) (2 ^ i)
  have e2 := mul_abs m (2 ^ i)
  rw [← hd] at e1
  rw [← ea] at e2
  have : (q - (m + n)).natAbs * 2 ^ i ≤ m.natAbs * 2 ^ i := by omega
  have := Nat.le_of_mul_le_mul_right this (Nat.two_pow_pos i)
  omega
theorem part_fin {q n m t : Int} {w : Nat} (h6 : (q - (n + m)).natAbs ≤ (2 * t - (n + m)).natAbs) (ht : n + m = 2 * t ∨ n + m + 1 = 2 * t) (hm : m.natAbs < w) (c : ¬ (q - n).natAbs ≤ w) : False := by omega
theorem rep_part {a b x : Int} (ha : Rep a) (hb : Rep b) (h : b.natAbs ≤ a.natAbs) (k : Nst x (a + b)) : Rep (x - a) := by
  obtain ⟨m, j, eb, hm, hs⟩ := rep_parts hb
  obtain ⟨n, ea⟩ := coarse eb hs ha h
  have hsum : a + b = (n + m) * ((2 ^ j : Nat) : Int) := by rw [ea, eb, Int.add_mul]
  obtain ⟨q, ex⟩ := nst_mul k ⟨_, hsum⟩
  have hd : x - a = (q - n) * ((2 ^ j : Nat) : Int) := by rw [ex, ea, Int.sub_mul]
  by_cases c : (q - n).natAbs ≤ 2 * P
  · rw [hd]; exact rep_mk c
  · have p := Nat.two_pow_pos j
    obtain ⟨n', jj, ea', hn', hs'⟩ := rep_parts ha
    by_cases c1 : j + 1 ≤ jj
    · obtain ⟨q', s, ex', hq', hs''⟩ := rep_parts k.1
      by_cases c2 : j + 1 ≤ s
      · obtain ⟨u, eu⟩ := pow_lift (m := n') c1
        obtain ⟨v, ev⟩ := pow_lift (m := q') c2
        have hd' : x - a = (v - u) * ((2 ^ (j + 1) : Nat) : Int) := by rw [ex', ea', eu, ev, Int.sub_mul]
        rw [hd']
        apply rep_mk
        have h1 := k.2 a ha
        have e1 := mul_abs (v - u) (2 ^ (j + 1))
        rw [← hd'] at e1
        have e2 := mul_abs m (2 ^ j)
        rw [← eb] at e2
        have h3 : m.natAbs * 2 ^ j < 2 * P * 2 ^ j := Nat.mul_lt_mul_of_pos_right hm p
        have h4 : (v - u).natAbs * 2 ^ (j + 1) ≤ 2 * P * 2 ^ (j + 1) := by
          have e5 : 2 * P * 2 ^ (j + 1) = 2 * (2 * P * 2 ^ j) := by rw [Nat.pow_succ]; generalize 2 * P = w; generalize 2 ^ j = z; grind
          rw [← e1, e5]
          clear e1 e5 hd' hd ev eu
          generalize 2 * P * 2 ^ j = w at *
          generalize m.natAbs * 2 ^ j = z at *
          omega
        exact Nat.le_of_mul_le_mul_right h4 (Nat.two_pow_pos (j + 1))
      · have hx : x.natAbs < 2 * P * 2 ^ j := by
          rw [ex', mul_abs]
          have h1 : q'.natAbs * 2 ^ s < 2 * P * 2 ^ s := Nat.mul_lt_mul_of_pos_right hq' (Nat.two_pow_pos s)
          have h2 : 2 * P * 2 ^ s ≤ 2 * P * 2 ^ j := Nat.mul_le_mul_left _ (Nat.pow_le_pow_right (by decide) (by omega))
          omega
        have k' := k
        rw [hsum] at k'
        have := k'.exact (rep_mk (nst_near k' hx))
        rw [← hsum] at this
        rw [this, show a + b - a = b by omega]
        exact hb
    · exfalso
      have hn : n.natAbs < 2 * P := by
        have h1 : a.natAbs < 2 * P * 2 ^ j := by
          rw [ea', mul_abs]
          have h1 : n'.natAbs * 2 ^ jj < 2 * P * 2 ^ jj := Nat.mul_lt_mul_of_pos_right hn' (Nat.two_pow_pos jj)
          have h2 : 2 * P * 2 ^ jj ≤ 2 * P * 2 ^ j := Nat.mul_le_mul_left _ (Nat.pow_le_pow_right (by decide) (by omega))
          omega
        rw [ea, mul_abs] at h1
        exact Nat.lt_of_mul_lt_mul_right h1
      -- an even neighbour
      obtain ⟨t, ht⟩ : ∃ t : Int, n + m = 2 * t ∨ n + m + 1 = 2 * t := ⟨(n + m + 1) / 2, by omega⟩
      have hc := k.2 _ (rep_mk (m := t) (s := j + 1) (by omega))
      have e3 : t * ((2 ^ (j + 1) : Nat) : Int) = 2 * t * ((2 ^ j : Nat) : Int) := by rw [Nat.pow_succ, Int.natCast_mul]; generalize ((2 ^ j : Nat) : Int) = z; grind
      rw [e3, hsum, ← Int.sub_mul, mul_abs] at hc
      have hx := mul_abs (q - (n + m)) (2 ^ j)
      rw [Int.sub_mul, ← ex] at hx
      have h5 : (q - (n + m)).natAbs * 2 ^ j ≤ (2 * t - (n + m)).natAbs * 2 ^ j := by omega
      have h6 := Nat.le_of_mul_le_mul_right h5 p
      exact part_fin h6 ht hm c
theorem rep_two {z : Int} (h : Rep z) : Rep (2 * z) := by
  obtain ⟨m, s, e, hm, _⟩ := rep_parts h
  have e3 : 2 * z = m * ((2 ^ (s + 1) : Nat) : Int) := by rw [e, Nat.pow_succ, Int.natCast_mul]; generalize ((2 ^ s : Nat) : Int) = z; grind
  rw [e3]
  exact rep_mk (by omega)
theorem two_pos {a b s c a' p q d : Int} (ha : Rep a) (hb : Rep b) (hs : Nst s (a + b)) (hc : Nst c (s - a)) (ha' : Nst a' (s - c)) (hp : Nst p (a - a')) (hq : Nst q (b - c)) (hd : Nst d (p + q)) (h : s < a + b) : 0 < d := by
  by_cases c1 : b.natAbs ≤ a.natAbs
  · have e1 := hc.exact (rep_part ha hb c1 hs)
    have e2 : a' = a := by
      have e : s - c = a := by omega
      rw [e] at ha'
      exact ha'.exact ha
    have e3 : p = 0 := by
      rw [show a - a' = 0 by omega] at hp
      exact hp.exact rep_zero
    have e4 := hq.pos (by omega)
    exact hd.pos (by omega)
  · by_cases c2 : s.natAbs < a.natAbs
    · exfalso
      have l : (a + b).natAbs ≤ a.natAbs := by
        have := hs.2 a ha
        have := hs.2 (-a) ha.neg
        omega
      have := hs.exact (rep_small ha hb (by omega) l)
      omega
    · have hc' : Nst c (s + -a) := by rwa [show s + -a = s - a by omega]
      have r1 := rep_part hs.1 ha.neg (by omega) hc'
      have e1 : a' = s - c := ha'.exact (by have := r1.neg; rwa [show -(c - s) = s - c by omega] at this)
      have r2 := rep_err ha.neg hs.1 (by omega) (by rwa [show -a + s = s - a by omega])
      have e2 : p = a - a' := hp.exact (by rwa [show a - a' = c - (-a + s) by omega])
      have hn := hc.2 b hb
      by_cases c3 : 0 < (s - a) - c
      · have r3 := rep_two r2.neg
        have := hq.ge r3 (by omega)
        exact hd.pos (by omega)
      · have := hq.nn (by omega)
        by_cases c4 : (s - a) - c = 0
        · have := hq.pos (by omega)
          exact hd.pos (by omega)
        · exact hd.pos (by omega)
/-- the sign of what is lacking -/
theorem two_sum {a b s c a' p q d : Int} (ha : Rep a) (hb : Rep b) (hs : Nst s (a + b)) (hc : Nst c (s - a)) (ha' : Nst a' (s - c)) (hp : Nst p (a - a')) (hq : Nst q (b - c)) (hd : Nst d (p + q)) : (0 < d ↔ s < a + b) ∧ (d < 0 ↔ a + b < s) := by
  have neg : a + b < s → d < 0 := fun h => by
    have := two_pos (a := -a) (b := -b) (s := -s) (c := -c) (a' := -a') (p := -p) (q := -q) (d := -d) ha.neg hb.neg
      (by have := hs.neg; rwa [show -(a + b) = -a + -b by omega] at this)
      (by have := hc.neg; rwa [show -(s - a) = -s - -a by omega] at this)
      (by have := ha'.neg; rwa [show -(s - c) = -s - -c by omega] at this)
      (by have := hp.neg; rwa [show -(a - a') = -a - -a' by omega] at this)
      (by have := hq.neg; rwa [show -(b - c) = -b - -c by omega] at this)
      (by have := hd.neg; rwa [show -(p + q) = -p + -q by omega] at this) (by omega)
    omega
  have pos := two_pos ha hb hs hc ha' hp hq hd
  have eq : s = a + b → d = 0 := fun h => by
    have e1 : c = b := by
      rw [show s - a = b by omega] at hc
      exact hc.exact hb
    have e2 : a' = a := by
      rw [show s - c = a by omega] at ha'
      exact ha'.exact ha
    have e3 : p = 0 := by
      rw [show a - a' = 0 by omega] at hp
      exact hp.exact rep_zero
    have e4 : q = 0 := by
      rw [show b - c = 0 by omega] at hq
      exact hq.exact rep_zero
    rw [e3, e4] at hd
    exact hd.exact rep_zero
  constructor
  · exact ⟨fun h => by rcases Int.lt_trichotomy s (a + b) with k | k | k; exact k; (have := eq k; omega); (have := neg k; omega), pos⟩
  · exact ⟨fun h => by rcases Int.lt_trichotomy s (a + b) with k | k | k; (have := pos k; omega); (have := eq k; omega); exact k, neg⟩
/-- where a sum is not exact, neither is much greater than it -/
theorem sum_bd {a b : Int} (ha : Rep a) (hb : Rep b) (h : ¬ Rep (a + b)) : a.natAbs ≤ 2 * (a + b).natAbs ∧ b.natAbs ≤ 2 * (a + b).natAbs := by
  have key : ∀ {a b : Int}, Rep a → Rep b → ¬ Rep (a + b) → a.natAbs ≤ b.natAbs → a.natAbs < (a + b).natAbs := by
    intro a b ha hb h k
    apply Nat.lt_of_not_le
    intro c
    exact h (rep_small ha hb k c)
  rcases Nat.le_total a.natAbs b.natAbs with c | c
  · have := key ha hb h c
    omega
  · have := key hb ha (by rwa [Int.add_comm]) c
    omega
end Bu
namespace Bu
set_option linter.all false
open Ieee

def INF : Nat := 9218868437227405312
def NINF : Nat := 18442240474082181120
def NEG0 : Nat := 9223372036854775808

/-- a place that is down or up of A / B -/
structure Nk (k A : Int) (B : Nat) : Prop where
  up : ∀ j, A ≤ nvZ j * (B : Int) → k ≤ j
  dn : ∀ j, nvZ j * (B : Int) ≤ A → j ≤ k
def upN (c : F) : F × Int := if c.k + 1 < (T : Int) then (F.of (c.k + 1), 0) else (F.zero, 10)
def dnN (c : F) : F × Int := if -(T : Int) < c.k - 1 then (F.of (c.k - 1), 0) else (F.zero, 10)
/-- the number by one that is next to what is real, as far as there is one -/
def sideF (c : F) (pos neg up : Bool) : F × Int := bif up then (bif pos then upN c else (c, 0)) else (bif neg then dnN c else (c, 0))
theorem side_ok {c : F} {A : Int} {B : Nat} (hB : 0 < B) (h : Nk c.k A B) {pos neg up : Bool} (hp : pos = true ↔ c.z * (B : Int) < A) (hn : neg = true ↔ A < c.z * (B : Int)) : sideF c pos neg up = rndR up A B := by
  have hT := T_num
  have hk := c.hk
  cases up
  · have l := fun k => @le_flI k A B hB
    unfold sideF rndR outDn
    simp only [cond_false, Bool.false_eq_true, if_false]
    cases neg
    · have n1 : ¬ A < c.z * (B : Int) := fun k => absurd (hn.2 k) (by decide)
      have e : flI A B = c.k := by
        have a := (l c.k).2 (by show c.z * _ ≤ A; omega)
        have b := h.dn _ ((l (flI A B)).1 (Int.le_refl _))
        omega
      rw [cond_false, e, if_neg (by omega), Int.min_eq_left (by omega), F.of_self]
    · have n1 := hn.1 rfl
      have e : flI A B = c.k - 1 := by
        have a : c.k - 1 ≤ flI A B := (l _).2 (by
          apply Int.not_lt.1
          intro k
          have := h.up (c.k - 1) (Int.le_of_lt k)
          omega)
        have b : ¬ c.k ≤ flI A B := fun k => by
          have : c.z * (B : Int) ≤ A := (l _).1 k
          omega
        omega
      rw [cond_true, e]
      unfold dnN
      by_cases c1 : -(T : Int) < c.k - 1
      · rw [if_pos c1, if_neg (by omega), Int.min_eq_left (by omega)]
      · rw [if_neg c1, if_pos (by omega)]
  · have l := fun k => @ceI_le k A B hB
    unfold sideF rndR outUp
    simp only [cond_true, if_true]
    cases pos
    · have n1 : ¬ c.z * (B : Int) < A := fun k => absurd (hp.2 k) (by decide)
      have e : ceI A B = c.k := by
        have a := (l c.k).2 (by show A ≤ c.z * _; omega)
        have b := h.up _ ((l (ceI A B)).1 (Int.le_refl _))
        omega
      rw [cond_false, e, if_neg (by omega), Int.max_eq_left (by omega), F.of_self]
    · have n1 := hp.1 rfl
      have e : ceI A B = c.k + 1 := by
        have a : ceI A B ≤ c.k + 1 := (l _).2 (by
          apply Int.not_lt.1
          intro k
          have := h.dn (c.k + 1) (Int.le_of_lt k)
          omega)
        have b : ¬ ceI A B ≤ c.k := fun k => by
          have : A ≤ c.z * (B : Int) := (l _).1 k
          omega
        omega
      rw [cond_true, e]
      unfold upN
      by_cases c1 : c.k + 1 < (T : Int)
      · rw [if_pos c1, if_neg (by omega), Int.max_eq_left (by omega)]
      · rw [if_neg c1, if_pos (by omega)]
theorem over_ok {A : Int} {B : Nat} (hB : 0 < B) (h : ∀ c : F, c.z * (B : Int) < A) (up : Bool) : rndR up A B = bif up then (F.zero, 10) else (F.max, 0) := by
  have hT := T_num
  have h1 := h F.max
  have e1 : F.max.k = (T : Int) - 1 := rfl
  cases up
  · have a := (@le_flI F.max.k A B hB).2 (by show F.max.z * _ ≤ A; omega)
    unfold rndR outDn
    simp only [cond_false, Bool.false_eq_true, if_false]
    rw [if_neg (by omega), Int.min_eq_right (by omega), ← e1, F.of_self]
  · have a : ¬ ceI A B ≤ F.max.k := fun k => by
      have : A ≤ F.max.z * (B : Int) := (@ceI_le _ A B hB).1 k
      omega
    unfold rndR outUp
    simp only [cond_true, if_true]
    rw [if_pos (by omega)]
theorem under_ok {A : Int} {B : Nat} (hB : 0 < B) (h : ∀ c : F, A < c.z * (B : Int)) (up : Bool) : rndR up A B = bif up then (F.min, 0) else (F.zero, 10) := by
  have hT := T_num
  have h1 := h F.min
  have e1 : F.min.k = 1 - (T : Int) := rfl
  cases up
  · have a : ¬ F.min.k ≤ flI A B := fun k => by
      have : F.min.z * (B : Int) ≤ A := (@le_flI _ A B hB).1 k
      omega
    unfold rndR outDn
    simp only [cond_false, Bool.false_eq_true, if_false]
    rw [if_pos (by omega)]
  · have a := (@ceI_le F.min.k A B hB).2 (by show A ≤ F.min.z * _; omega)
    unfold rndR outUp
    simp only [cond_true, if_true]
    rw [if_neg (by omega), Int.max_eq_right (by omega), ← e1, F.of_self]

def nearZ (A : Int) (B : Nat) : Int := if A < 0 then -(near A.natAbs B : Int) else (near A.natAbs B : Int)
theorem neg_pos_mul {a b : Int} (h : a < 0) (k : 0 < b) : a * b < 0 := Int.mul_neg_of_neg_of_pos h k
theorem near_Nk {A : Int} {B : Nat} (hB : 0 < B) : Nk (nearZ A B) A B := by
  have hBi : (0 : Int) < B := by omega
  have pos : ∀ {j : Int}, 0 ≤ j → nvZ j * (B : Int) = ((nv j.natAbs * B : Nat) : Int) := fun {j} h => by
    have e := nvZ_natCast j.natAbs
    rw [show ((j.natAbs : Nat) : Int) = j by omega] at e
    rw [e, Int.natCast_mul]
  have neg : ∀ {j : Int}, j < 0 → nvZ j * (B : Int) = -((nv j.natAbs * B : Nat) : Int) := fun {j} h => by
    have e := pos (j := -j) (by omega)
    rw [nvZ_neg, Int.natAbs_neg, Int.neg_mul] at e
    omega
  unfold nearZ
  constructor
  · intro j h
    by_cases hA : A < 0
    · rw [if_pos hA]
      by_cases hj : 0 ≤ j
      · omega
      · rw [neg (by omega)] at h
        have := le_near (n := A.natAbs) (r := j.natAbs) hB (by omega)
        omega
    · rw [if_neg hA]
      by_cases hj : 0 ≤ j
      · rw [pos hj] at h
        have := near_le (n := A.natAbs) (r := j.natAbs) hB (by omega)
        omega
      · have h1 : nvZ j < nvZ 0 := nvZ_lt (by omega)
        rw [nvZ_zero] at h1
        have := neg_pos_mul h1 hBi
        omega
  · intro j h
    by_cases hA : A < 0
    · rw [if_pos hA]
      by_cases hj : 0 ≤ j
      · have := Int.mul_nonneg (nvZ_nonneg hj) (Int.le_of_lt hBi)
        omega
      · rw [neg (by omega)] at h
        have := near_le (n := A.natAbs) (r := j.natAbs) hB (by omega)
        omega
    · rw [if_neg hA]
      by_cases hj : 0 ≤ j
      · rw [pos hj] at h
        have := le_near (n := A.natAbs) (r := j.natAbs) hB (by omega)
        omega
      · omega
/-- the word of A / B (times S), rounded -/
def wrd (A : Int) (B : Nat) : Nat := if A = 0 then 0 else double.word (decide (A < 0)) (min (near A.natAbs B) T)
/-- what a word tells of a place -/
def Out (w : Nat) (k : Int) : Prop := (∃ D : F, w = D.b ∧ D.k = k) ∨ (w = NEG0 ∧ k = 0) ∨ (w = INF ∧ (T : Int) ≤ k) ∨ (w = NINF ∧ k ≤ -(T : Int))
theorem near_zero {B : Nat} (hB : 0 < B) : near 0 B = 0 := near_exact hB (by rw [nv_zero, Nat.zero_mul])
theorem out_wrd (A : Int) {B : Nat} (hB : 0 < B) : Out (wrd A B) (nearZ A B) := by
  have hT := T_num
  unfold wrd nearZ
  by_cases h0 : A = 0
  · subst h0
    rw [if_pos rfl, if_neg (by omega), Int.natAbs_zero, near_zero hB]
    exact .inl ⟨F.zero, by decide, rfl⟩
  · rw [if_neg h0]
    by_cases hr : near A.natAbs B < T
    · rw [Nat.min_eq_left (by omega)]
      by_cases hA : A < 0
      · rw [decide_eq_true hA, if_pos hA]
        by_cases hz : near A.natAbs B = 0
        · refine .inr (.inl ⟨?_, ?_⟩)
          · rw [hz]; decide
          · rw [hz]; rfl
        · rw [word_F _ _ hr (fun _ => hz), if_pos rfl]
          exact .inl ⟨_, rfl, by rw [F.of_k (by omega)]⟩
      · rw [decide_eq_false hA, word_F _ _ hr (by simp), if_neg (by decide), if_neg hA]
        exact .inl ⟨_, rfl, by rw [F.of_k (by omega)]⟩
    · rw [Nat.min_eq_right (by omega)]
      by_cases hA : A < 0
      · refine .inr (.inr (.inr ⟨?_, ?_⟩))
        · rw [decide_eq_true hA]; decide
        · rw [if_pos hA]; omega
      · refine .inr (.inr (.inl ⟨?_, ?_⟩))
        · rw [decide_eq_false hA]; decide
        · rw [if_neg hA]; omega
theorem Nk.of {k A : Int} {B : Nat} (hB : 0 < B) (h : k = nearZ A B) : Nk k A B := h ▸ near_Nk hB
/-- the nearest place of a whole number is as near as any -/
theorem near_nst (A : Int) : Nst (nvZ (nearZ A 1)) A := by
  refine ⟨⟨_, rfl⟩, ?_⟩
  have key : ∀ n : Nat, ∀ r, ((nv (near n 1) : Int) - (n : Int)).natAbs ≤ ((nv r : Int) - (n : Int)).natAbs := by
    intro n r
    unfold near
    simp only [Nat.div_one, Nat.mul_one]
    have h1 := nv_fl_le n
    have h2 := lt_nv_fl n
    have h3 : nv r ≤ nv (fl n) ∨ nv (fl n + 1) ≤ nv r := by
      rcases Nat.lt_or_ge (fl n) r with k | k
      · exact .inr (nv_le k)
      · exact .inl (nv_le k)
    generalize nv r = x at *
    split
    · omega
    · split
      · omega
      · split <;> omega
  have k1 : ∀ n : Nat, ∀ c, Rep c → ((nv (near n 1) : Int) - (n : Int)).natAbs ≤ (c - (n : Int)).natAbs := by
    rintro n c ⟨j, rfl⟩
    by_cases hj : 0 ≤ j
    · have e := nvZ_natCast j.natAbs
      rw [show ((j.natAbs : Nat) : Int) = j by omega] at e
      rw [e]
      exact key n _
    · have h1 : nvZ j < nvZ 0 := nvZ_lt (by omega)
      rw [nvZ_zero] at h1
      have := key n 0
      rw [nv_zero] at this
      omega
  intro c hc
  unfold nearZ
  by_cases hA : A < 0
  · rw [if_pos hA, nvZ_neg, nvZ_natCast]
    have := k1 A.natAbs (-c) hc.neg
    omega
  · rw [if_neg hA, nvZ_natCast]
    have := k1 A.natAbs c hc
    omega
theorem rep_F (x : F) : Rep x.z := ⟨x.k, rfl⟩
theorem Nst.nk {D : F} {v : Int} (h : Nst D.z v) : Nk D.k v 1 := by
  constructor
  · intro j k
    exact nvZ_le_iff.1 (h.le ⟨j, rfl⟩ (by omega))
  · intro j k
    exact nvZ_le_iff.1 (h.ge ⟨j, rfl⟩ (by omega))
theorem sum_out (A : Int) : (∃ D : F, wrd A 1 = D.b ∧ Nst D.z A) ∨ (wrd A 1 = INF ∧ ∀ c : F, c.z < A) ∨ (wrd A 1 = NINF ∧ ∀ c : F, A < c.z) := by
  have hk := @near_Nk A 1 (by decide)
  rcases out_wrd A (B := 1) (by decide) with ⟨D, e, k⟩ | ⟨e, k⟩ | ⟨e, h⟩ | ⟨e, h⟩
  · refine .inl ⟨D, e, ?_⟩
    have := near_nst A
    rwa [← k] at this
  · have n := near_nst A
    rw [k, nvZ_zero] at n
    have A0 : A = 0 := by
      rcases Int.lt_trichotomy A 0 with c | c | c
      · have := n.neg.pos (by omega); omega
      · exact c
      · have := n.pos c; omega
    subst A0
    exact .inl ⟨F.zero, by decide, by have z0 : F.zero.z = 0 := (z_zero F.zero).2 rfl; rw [z0]; exact n⟩
  · refine .inr (.inl ⟨e, fun c => ?_⟩)
    apply Int.not_le.1
    intro k
    have := hk.up c.k (by have : nvZ c.k = c.z := rfl; omega)
    have := c.hk
    omega
  · refine .inr (.inr ⟨e, fun c => ?_⟩)
    apply Int.not_le.1
    intro k
    have := hk.dn c.k (by have : nvZ c.k = c.z := rfl; omega)
    have := c.hk
    omega
/-- the same of a place without an end -/
def sideK (k : Int) (pos neg up : Bool) : F × Int := if (T : Int) ≤ k then bif up then (F.zero, 10) else (F.max, 0) else if k ≤ -(T : Int) then bif up then (F.min, 0) else (F.zero, 10) else sideF (F.of k) pos neg up
theorem sideK_ok {k A : Int} {B : Nat} (hB : 0 < B) (h : Nk k A B) {pos neg up : Bool} (hp : -(T : Int) < k → k < T → (pos = true ↔ nvZ k * (B : Int) < A)) (hn : -(T : Int) < k → k < T → (neg = true ↔ A < nvZ k * (B : Int))) : sideK k pos neg up = rndR up A B := by
  unfold sideK
  by_cases c1 : (T : Int) ≤ k
  · rw [if_pos c1, over_ok hB (fun c => ?_)]
    apply Int.not_le.1
    intro l
    have := h.up c.k l
    have := c.hk
    omega
  · rw [if_neg c1]
    by_cases c2 : k ≤ -(T : Int)
    · rw [if_pos c2, under_ok hB (fun c => ?_)]
      apply Int.not_le.1
      intro l
      have := h.dn c.k l
      have := c.hk
      omega
    · rw [if_neg c2]
      have e : (F.of k).k = k := F.of_k (by omega)
      have ez : (F.of k).z = nvZ k := by unfold F.z; rw [e]
      exact side_ok hB (by rw [e]; exact h) (by rw [ez]; exact hp (by omega) (by omega)) (by rw [ez]; exact hn (by omega) (by omega))
theorem sum_fin {A : Int} {g : F} (h1 : A ≤ g.z) (h2 : -A ≤ g.z) : ∃ D : F, wrd A 1 = D.b ∧ Nst D.z A ∧ D.z ≤ g.z ∧ -D.z ≤ g.z := by
  rcases sum_out A with ⟨D, e, h⟩ | ⟨_, h⟩ | ⟨_, h⟩
  · exact ⟨D, e, h, h.le (rep_F g) h1, by have := h.ge (rep_F g).neg (by omega); omega⟩
  · have := h g; omega
  · have := h g.neg; rw [F.neg_z] at this; omega
def G0 : F := F.dy 1 1000
def G1 : F := F.dy 1 1001
def G2 : F := F.dy 1 1002
def G3 : F := F.dy 1 1003
def G4 : F := F.dy 1 1004
def G5 : F := F.dy 1 1005
theorem G1_z : G1.z = 2 * G0.z := by decide +kernel
theorem G2_z : G2.z = 4 * G0.z := by decide +kernel
theorem G3_z : G3.z = 8 * G0.z := by decide +kernel
theorem G4_z : G4.z = 16 * G0.z := by decide +kernel
theorem G5_z : G5.z = 32 * G0.z := by decide +kernel
theorem G0_pos : 0 < G0.z := by decide +kernel
structure Two (a b s : F) (c a' p q d : F) : Prop where
  e1 : wrd (s.z - a.z) 1 = c.b
  e2 : wrd (s.z - c.z) 1 = a'.b
  e3 : wrd (a.z - a'.z) 1 = p.b
  e4 : wrd (b.z - c.z) 1 = q.b
  e5 : wrd (p.z + q.z) 1 = d.b
  pos : 0 < d.z ↔ s.z < a.z + b.z
  neg : d.z < 0 ↔ a.z + b.z < s.z
theorem two_near {a b s : F} (hs : Nst s.z (a.z + b.z)) (h1 : s.z < G0.z) (h2 : -s.z < G0.z) : ∃ c a' p q d : F, Two a b s c a' p q d := by
  have g0 := G0_pos; have g1 := G1_z; have g2 := G2_z; have g3 := G3_z; have g4 := G4_z; have g5 := G5_z
  have fin : ∃ c a' p q d : F, (wrd (s.z - a.z) 1 = c.b ∧ Nst c.z (s.z - a.z)) ∧ (wrd (s.z - c.z) 1 = a'.b ∧ Nst a'.z (s.z - c.z)) ∧ (wrd (a.z - a'.z) 1 = p.b ∧ Nst p.z (a.z - a'.z)) ∧ (wrd (b.z - c.z) 1 = q.b ∧ Nst q.z (b.z - c.z)) ∧ (wrd (p.z + q.z) 1 = d.b ∧ Nst d.z (p.z + q.z)) := by
    by_cases r : Rep (a.z + b.z)
    · have e := hs.exact r
      have ab : ∀ {x : F} {v : Int}, v = x.z → ∃ D : F, wrd v 1 = D.b ∧ Nst D.z v ∧ D.z = x.z := by
        rintro x v rfl
        obtain ⟨D, e, h, _⟩ := sum_fin (A := x.z) (g := x.abs) (by
          have := z_natAbs' x
          have e : x.abs.z = (nv x.k.natAbs : Int) := nvZ_natCast _
          omega) (by
          have := z_natAbs' x
          have e : x.abs.z = (nv x.k.natAbs : Int) := nvZ_natCast _
          omega)
        exact ⟨D, e, h, h.exact (rep_F x)⟩
      have z0 : F.zero.z = 0 := (z_zero F.zero).2 rfl
      obtain ⟨c, c1, c2, c3⟩ := ab (x := b) (v := s.z - a.z) (by omega)
      obtain ⟨a', a1, a2, a3⟩ := ab (x := a) (v := s.z - c.z) (by omega)
      obtain ⟨p, p1, p2, p3⟩ := ab (x := F.zero) (v := a.z - a'.z) (by omega)
      obtain ⟨q, q1, q2, q3⟩ := ab (x := F.zero) (v := b.z - c.z) (by omega)
      obtain ⟨d, d1, d2, d3⟩ := ab (x := F.zero) (v := p.z + q.z) (by omega)
      exact ⟨c, a', p, q, d, ⟨c1, c2⟩, ⟨a1, a2⟩, ⟨p1, p2⟩, ⟨q1, q2⟩, ⟨d1, d2⟩⟩
    · obtain ⟨b1, b2⟩ := sum_bd (rep_F a) (rep_F b) r
      have s1 : a.z + b.z ≤ G0.z := by
        apply Int.not_lt.1
        intro k
        have := hs.ge (rep_F G0) (by omega)
        omega
      have s2 : -(a.z + b.z) ≤ G0.z := by
        apply Int.not_lt.1
        intro k
        have := hs.le (rep_F G0).neg (by omega)
        omega
      obtain ⟨c, c1, c2, c3, c4⟩ := sum_fin (A := s.z - a.z) (g := G2) (by omega) (by omega)
      obtain ⟨a', a1, a2, a3, a4⟩ := sum_fin (A := s.z - c.z) (g := G3) (by omega) (by omega)
      obtain ⟨p, p1, p2, p3, p4⟩ := sum_fin (A := a.z - a'.z) (g := G4) (by omega) (by omega)
      obtain ⟨q, q1, q2, q3, q4⟩ := sum_fin (A := b.z - c.z) (g := G3) (by omega) (by omega)
      obtain ⟨d, d1, d2, _⟩ := sum_fin (A := p.z + q.z) (g := G5) (by omega) (by omega)
      exact ⟨c, a', p, q, d, ⟨c1, c2⟩, ⟨a1, a2⟩, ⟨p1, p2⟩, ⟨q1, q2⟩, ⟨d1, d2⟩⟩
  obtain ⟨c, a', p, q, d, ⟨c1, c2⟩, ⟨a1, a2⟩, ⟨p1, p2⟩, ⟨q1, q2⟩, ⟨d1, d2⟩⟩ := fin
  have := two_sum (rep_F a) (rep_F b) hs c2 a2 p2 q2 d2
  exact ⟨c, a', p, q, d, c1, a1, p1, q1, d1, this.1, this.2⟩
theorem rep_pow {z : Int} (h : Rep z) (i : Nat) : Rep (z * ((2 ^ i : Nat) : Int)) := by
  obtain ⟨m, s, e, hm, _⟩ := rep_parts h
  rw [e, Int.mul_assoc, ← Int.natCast_mul, ← Nat.pow_add]
  exact rep_mk (by omega)
theorem rep_coarse {z : Int} (h : Rep z) {i : Nat} (k : 2 * P * 2 ^ i ≤ z.natAbs) : ∃ n : Int, z = n * ((2 ^ i : Nat) : Int) := by
  obtain ⟨m, s, e, hm, _⟩ := rep_parts h
  by_cases c : i ≤ s
  · rw [e]; exact pow_lift c
  · exfalso
    rw [e, mul_abs] at k
    have h1 : m.natAbs * 2 ^ s < 2 * P * 2 ^ s := Nat.mul_lt_mul_of_pos_right hm (Nat.two_pow_pos s)
    have h2 : 2 * P * 2 ^ s ≤ 2 * P * 2 ^ i := Nat.mul_le_mul_left _ (Nat.pow_le_pow_right (by decide) (by omega))
    omega
def K60 : F := F.dy 1 60
@[irreducible] def Q12 : Nat := 2 ^ 1200
theorem Q12_eq : Q12 = 2 ^ 1200 := by unfold Q12; rfl
theorem K60_z : 2 * K60.z < (Q12 : Int) := by decide +kernel
theorem Q12_z : 2 * ((2 * P * Q12 : Nat) : Int) ≤ G0.z := by decide +kernel
theorem K60_pos : 0 < K60.z := by decide +kernel
theorem far_small {a b s : F} (hs : Nst s.z (a.z + b.z)) (hb : G0.z ≤ s.z ∨ s.z ≤ -G0.z) (h1 : a.z < K60.z) (h2 : -a.z < K60.z) : (0 < a.z ↔ s.z < a.z + b.z) ∧ (a.z < 0 ↔ a.z + b.z < s.z) := by
  have g0 := G0_pos; have k0 := K60_pos; have k1 := K60_z; have k2 := Q12_z
  have n := hs.2 b.z (rep_F b)
  have kp : 0 < 2 * P * Q12 := Nat.mul_pos (by decide) (Q12_eq ▸ Nat.two_pow_pos 1200)
  have qp : Q12 ≤ 2 * P * Q12 := Nat.le_mul_of_pos_left _ (by decide)
  have c1 : 2 * P * 2 ^ 1200 ≤ s.z.natAbs := by rw [← Q12_eq]; omega
  have c2 : 2 * P * 2 ^ 1200 ≤ b.z.natAbs := by rw [← Q12_eq]; omega
  obtain ⟨u, eu⟩ := rep_coarse (rep_F s) c1
  obtain ⟨v, ev⟩ := rep_coarse (rep_F b) c2
  rw [← Q12_eq] at eu ev
  have ed : s.z - b.z = (u - v) * (Q12 : Int) := by rw [eu, ev, Int.sub_mul]
  have e := mul_abs (u - v) Q12
  rw [← ed] at e
  have z : (u - v).natAbs = 0 := by
    apply Nat.eq_zero_of_not_pos
    intro k
    have := Nat.mul_le_mul_right Q12 (show 1 ≤ (u - v).natAbs from k)
    omega
  rw [z, Nat.zero_mul] at e
  omega
@[irreducible] def Q60 : Nat := 2 ^ 60
theorem Q60_eq : Q60 = 2 ^ 60 := by unfold Q60; rfl
theorem far_scale {a b s x y t : F} (hs : Nst s.z (a.z + b.z)) (ha : a.z = x.z * (Q60 : Int)) (hb : b.z = y.z * (Q60 : Int)) (ht : s.z = t.z * (Q60 : Int)) : Nst t.z (x.z + y.z) := by
  refine ⟨rep_F t, fun c hc => ?_⟩
  have := hs.2 _ (rep_pow hc 60)
  rw [← Q60_eq, ha, hb, ht, ← Int.add_mul, ← Int.sub_mul, ← Int.sub_mul, mul_abs, mul_abs] at this
  exact Nat.le_of_mul_le_mul_right this (Q60_eq ▸ Nat.two_pow_pos 60)
end Bu
namespace Bu
set_option linter.all false
open Ieee

theorem Nk.neg {k A : Int} {B : Nat} (h : Nk k A B) : Nk (-k) (-A) B := by
  constructor
  · intro j hj
    have := h.dn (-j) (by rw [nvZ_neg, Int.neg_mul]; omega)
    omega
  · intro j hj
    have := h.up (-j) (by rw [nvZ_neg, Int.neg_mul]; omega)
    omega
theorem le_scale {a b : Int} {u : Nat} (hu : 0 < u) : a * (u : Int) ≤ b * (u : Int) ↔ a ≤ b := Int.mul_le_mul_right (by omega)
theorem lt_scale {a b : Int} {u : Nat} (hu : 0 < u) : a * (u : Int) < b * (u : Int) ↔ a < b := Int.mul_lt_mul_right (by omega)
theorem Nk.ratio {k A A' : Int} {B B' : Nat} (hB : 0 < B) (hB' : 0 < B') (e : A * (B' : Int) = A' * (B : Int)) (h : Nk k A B) : Nk k A' B' := by
  constructor
  · intro j hj
    refine h.up j ((le_scale hB').1 ?_)
    have := (le_scale hB).2 hj
    rw [e]
    rwa [Int.mul_right_comm] at this
  · intro j hj
    refine h.dn j ((le_scale hB').1 ?_)
    have := (le_scale hB).2 hj
    rw [e]
    rwa [Int.mul_right_comm] at this
/-- a place, scaled: a place again, or small -/
theorem scale_or (j n : Int) : (∃ i, nvZ i * ((2 ^ n.toNat : Nat) : Int) = nvZ j * ((2 ^ (-n).toNat : Nat) : Int)) ∨ ((nvZ j).natAbs < 2 * P * 2 ^ n.toNat ∧ 2 ^ (-n).toNat = 1) := by
  obtain ⟨m, s, e, hm, _⟩ := rep_parts ⟨j, rfl⟩
  by_cases c : n ≤ (s : Int)
  · left
    obtain ⟨i, hi⟩ := rep_mk (m := m) (s := ((s : Int) - n).toNat) (by omega)
    refine ⟨i, ?_⟩
    rw [hi, e, Int.mul_assoc, Int.mul_assoc, ← Int.natCast_mul, ← Int.natCast_mul, ← Nat.pow_add, ← Nat.pow_add]
    congr 3
    omega
  · right
    constructor
    · rw [e, mul_abs]
      have h1 : m.natAbs * 2 ^ s < 2 * P * 2 ^ s := Nat.mul_lt_mul_of_pos_right hm (Nat.two_pow_pos s)
      have h2 : 2 * P * 2 ^ s ≤ 2 * P * 2 ^ n.toNat := Nat.mul_le_mul_left _ (Nat.pow_le_pow_right (by decide) (by omega))
      omega
    · rw [show (-n).toNat = 0 by omega, Nat.pow_zero]
theorem comp_up {k0 k A0 n : Int} {B0 : Nat} (hB : 0 < B0) (h0 : Nk k0 A0 B0) (big : 2 * P * B0 ≤ A0.natAbs) (hk : Nk k (nvZ k0 * ((2 ^ n.toNat : Nat) : Int)) (2 ^ (-n).toNat)) (j : Int) (h : A0 * ((2 ^ n.toNat : Nat) : Int) ≤ nvZ j * ((B0 * 2 ^ (-n).toNat : Nat) : Int)) : k ≤ j := by
  have pU := Nat.two_pow_pos n.toNat
  have pD := Nat.two_pow_pos (-n).toNat
  rcases scale_or j n with ⟨i, e⟩ | ⟨l, e⟩
  · generalize 2 ^ n.toNat = U at *
    generalize 2 ^ (-n).toNat = D at *
    refine hk.up j ?_
    rw [← e]
    refine (le_scale pU).2 ?_
    have h1 : A0 * (U : Int) ≤ nvZ i * (B0 : Int) * (U : Int) := by
      rw [Int.natCast_mul, Int.mul_comm (B0 : Int), ← Int.mul_assoc, ← e] at h
      rwa [Int.mul_right_comm]
    have h2 := h0.up i ((le_scale pU).1 h1)
    exact nvZ_le_iff.2 h2
  · rw [e] at hk h
    generalize 2 ^ n.toNat = U at *
    rw [Nat.mul_one] at h
    refine hk.up j ?_
    have e2 : ((1 : Nat) : Int) = 1 := rfl
    rw [e2, Int.mul_one]
    obtain ⟨i, hi⟩ := (rep_nat (m := 2 * P) (s := 0) (Nat.le_refl _)).neg
    rw [Nat.pow_zero, Nat.mul_one] at hi
    have q1 := mul_abs (nvZ j) B0
    have q2 := mul_abs A0 U
    have q3 : (nvZ j).natAbs * B0 < 2 * P * U * B0 := Nat.mul_lt_mul_of_pos_right l hB
    have q4 : 2 * P * B0 * U ≤ A0.natAbs * U := Nat.mul_le_mul_right U big
    have q5 : 2 * P * U * B0 = 2 * P * B0 * U := by rw [Nat.mul_right_comm]
    rcases (show A0 < 0 ∨ 0 ≤ A0 by omega) with c | c
    · have h3 : A0 ≤ nvZ i * (B0 : Int) := by
        rw [hi, Int.neg_mul, ← Int.natCast_mul]
        omega
      have h4 := nvZ_le_iff.2 (h0.up i h3)
      rw [hi] at h4
      have h5 := (le_scale pU).2 h4
      rw [Int.neg_mul, ← Int.natCast_mul] at h5
      omega
    · exfalso
      have := Int.mul_nonneg c (show (0 : Int) ≤ (U : Int) by omega)
      omega
/-- two roundings, one after the other, round; where the first one is far from the least numbers -/
theorem comp_Nk {k0 k A0 n : Int} {B0 : Nat} (hB : 0 < B0) (h0 : Nk k0 A0 B0) (big : 2 * P * B0 ≤ A0.natAbs) (hk : Nk k (nvZ k0 * ((2 ^ n.toNat : Nat) : Int)) (2 ^ (-n).toNat)) : Nk k (A0 * ((2 ^ n.toNat : Nat) : Int)) (B0 * 2 ^ (-n).toNat) := by
  refine ⟨comp_up hB h0 big hk, fun j h => ?_⟩
  have := comp_up hB h0.neg (by omega) (by rw [nvZ_neg, Int.neg_mul]; exact hk.neg) (-j) (by rw [nvZ_neg, Int.neg_mul, Int.neg_mul]; omega)
  omega
/-- Ldexp, rounded -/
def ldK (x : F) (n : Int) : Int := nearZ (x.z * ((2 ^ n.toNat : Nat) : Int)) (2 ^ (-n).toNat)
def ldW (x : F) (n : Int) : Nat := wrd (x.z * ((2 ^ n.toNat : Nat) : Int)) (2 ^ (-n).toNat)
theorem ld_out (x : F) (n : Int) : Out (ldW x n) (ldK x n) := out_wrd _ (Nat.two_pow_pos _)
theorem ld_Nk (x : F) (n : Int) : Nk (ldK x n) (x.z * ((2 ^ n.toNat : Nat) : Int)) (2 ^ (-n).toNat) := near_Nk (Nat.two_pow_pos _)
theorem near_half {n d : Nat} (h : 2 * n < d) : near n d = 0 := by
  unfold near
  simp only
  have e : n / d = 0 := Nat.div_eq_of_lt (by omega)
  have n1 : nv 1 = 1 := by decide
  rw [e, fl_zero, nv_zero, show (0 : Nat) + 1 = 1 from rfl, n1, if_pos (by omega)]
theorem pow_between {n : Nat} (h : n ≠ 0) : ∃ t, 2 ^ t ≤ n ∧ n < 2 ^ (t + 1) := ⟨n.log2, Nat.log2_self_le h, Nat.lt_log2_self⟩
/-- what a rounded one is, back again -/
theorem back_ok {x D : F} {n : Int} (hx : 2 * P ≤ x.z.natAbs) (hD : D.k = ldK x n) (hm : 2 * x.z.natAbs ≤ F.max.z.natAbs) : ∃ y : F, y.z * ((2 ^ n.toNat : Nat) : Int) = D.z * ((2 ^ (-n).toNat : Nat) : Int) ∧ y.z.natAbs ≤ 2 * x.z.natAbs ∧ (D.k ≠ 0 → x.z.natAbs ≤ 2 * y.z.natAbs) := by
  have hk := ld_Nk x n
  have hP := P_pos
  rw [← hD] at hk
  by_cases hD0 : D.k = 0
  · refine ⟨F.zero, ?_, ?_, fun h => absurd hD0 h⟩
    · have z0 : F.zero.z = 0 := (z_zero F.zero).2 rfl
      rw [z0, (z_zero D).2 hD0, Int.zero_mul, Int.zero_mul]
    · have z0 : F.zero.z = 0 := (z_zero F.zero).2 rfl
      rw [z0]; exact Nat.zero_le _
  · -- not so small
    have half : 2 ^ (-n).toNat ≤ 2 * (x.z.natAbs * 2 ^ n.toNat) := by
      apply Nat.le_of_not_lt
      intro c
      apply hD0
      rw [hD]
      unfold ldK nearZ
      rw [mul_abs, near_half c]
      split <;> rfl
    obtain ⟨t, t1, t2⟩ := pow_between (n := x.z.natAbs) (by omega)
    -- a place above
    have pU := Nat.two_pow_pos n.toNat
    have pD := Nat.two_pow_pos (-n).toNat
    have ex : 0 ≤ (t : Int) + 1 + n := by
      apply Int.not_lt.1
      intro c
      have c0 : n.toNat = 0 := by omega
      rw [c0, Nat.pow_zero, Nat.mul_one] at half
      have : 2 ^ (t + 2) ≤ 2 ^ (-n).toNat := Nat.pow_le_pow_right (by decide) (by omega)
      have e : 2 ^ (t + 2) = 2 * 2 ^ (t + 1) := by rw [Nat.pow_succ _ (t + 1), Nat.mul_comm]
      omega
    obtain ⟨i, hi⟩ := rep_nat (m := 1) (s := ((t : Int) + 1 + n).toNat) (by have := hP; omega)
    rw [Nat.one_mul] at hi
    have ev : 2 ^ ((t : Int) + 1 + n).toNat * 2 ^ (-n).toNat = 2 ^ (t + 1) * 2 ^ n.toNat := by
      rw [← Nat.pow_add, ← Nat.pow_add]; congr 1; omega
    have ax := mul_abs x.z (2 ^ n.toNat)
    have lt : x.z.natAbs * 2 ^ n.toNat ≤ 2 ^ (t + 1) * 2 ^ n.toNat := Nat.mul_le_mul_right _ (by omega)
    have u1 : D.k ≤ i := hk.up i (by rw [hi, ← Int.natCast_mul, ev]; omega)
    have u2 : -i ≤ D.k := hk.dn (-i) (by rw [nvZ_neg, hi, Int.neg_mul, ← Int.natCast_mul, ev]; omega)
    have v1 : D.z ≤ ((2 ^ ((t : Int) + 1 + n).toNat : Nat) : Int) := by rw [← hi]; exact nvZ_le_iff.2 u1
    have v2 : -((2 ^ ((t : Int) + 1 + n).toNat : Nat) : Int) ≤ D.z := by rw [← hi, ← nvZ_neg]; exact nvZ_le_iff.2 u2
    have v3 : D.z.natAbs * 2 ^ (-n).toNat ≤ 2 ^ (t + 1) * 2 ^ n.toNat := by
      rw [← ev]; exact Nat.mul_le_mul_right _ (by omega)
    have e2 : 2 ^ (t + 1) = 2 * 2 ^ t := by rw [Nat.pow_succ, Nat.mul_comm]
    -- from below
    have v4 : 2 ^ t * 2 ^ n.toNat ≤ D.z.natAbs * 2 ^ (-n).toNat := by
      by_cases ex0 : 0 ≤ (t : Int) + n
      · obtain ⟨j, hj⟩ := rep_nat (m := 1) (s := ((t : Int) + n).toNat) (by have := hP; omega)
        rw [Nat.one_mul] at hj
        have ev0 : 2 ^ ((t : Int) + n).toNat * 2 ^ (-n).toNat = 2 ^ t * 2 ^ n.toNat := by
          rw [← Nat.pow_add, ← Nat.pow_add]; congr 1; omega
        have lt0 : 2 ^ t * 2 ^ n.toNat ≤ x.z.natAbs * 2 ^ n.toNat := Nat.mul_le_mul_right _ t1
        have ge : 2 ^ ((t : Int) + n).toNat ≤ D.z.natAbs := by
          rcases (show x.z * ((2 ^ n.toNat : Nat) : Int) < 0 ∨ 0 ≤ x.z * ((2 ^ n.toNat : Nat) : Int) by omega) with c | c
          · have := nvZ_le_iff.2 (hk.up (-j) (by rw [nvZ_neg, hj, Int.neg_mul, ← Int.natCast_mul, ev0]; omega))
            rw [nvZ_neg, hj] at this
            have : D.z ≤ -((2 ^ ((t : Int) + n).toNat : Nat) : Int) := this
            omega
          · have := nvZ_le_iff.2 (hk.dn j (by rw [hj, ← Int.natCast_mul, ev0]; omega))
            rw [hj] at this
            have : ((2 ^ ((t : Int) + n).toNat : Nat) : Int) ≤ D.z := this
            omega
        rw [← ev0]
        exact Nat.mul_le_mul_right _ ge
      · have c0 : n.toNat = 0 := by omega
        have z0 := z_zero D
        have : 1 * 2 ^ (-n).toNat ≤ D.z.natAbs * 2 ^ (-n).toNat := Nat.mul_le_mul_right _ (by omega)
        have : 2 ^ t ≤ 2 ^ (-n).toNat := Nat.pow_le_pow_right (by decide) (by omega)
        rw [c0, Nat.pow_zero, Nat.mul_one]
        omega
    rcases scale_or D.k n with ⟨i', e⟩ | ⟨l, e⟩
    · have e : nvZ i' * ((2 ^ n.toNat : Nat) : Int) = D.z * ((2 ^ (-n).toNat : Nat) : Int) := e
      have q := congrArg Int.natAbs e
      rw [mul_abs, mul_abs] at q
      have w : (nvZ i').natAbs ≤ 2 ^ (t + 1) := Nat.le_of_mul_le_mul_right (by rw [q]; exact v3) pU
      have w2 : 2 ^ t ≤ (nvZ i').natAbs := Nat.le_of_mul_le_mul_right (by rw [q]; exact v4) pU
      have fin : (nvZ i').natAbs ≤ F.max.z.natAbs := by omega
      have mp : F.max.z = nvZ ((T : Int) - 1) := rfl
      have mpos : 0 ≤ F.max.z := by rw [mp]; exact nvZ_nonneg (by have := T_num; omega)
      have f1 : i' ≤ (T : Int) - 1 := nvZ_le_iff.1 (by rw [← mp]; omega)
      have f2 : -((T : Int) - 1) ≤ i' := nvZ_le_iff.1 (by rw [nvZ_neg, ← mp]; omega)
      refine ⟨F.of i', ?_, ?_, fun _ => ?_⟩
      · unfold F.z at *
        rw [F.of_k (by omega), e]
      · unfold F.z at *
        rw [F.of_k (by omega)]; omega
      · unfold F.z at *
        rw [F.of_k (by omega)]; omega
    · exfalso
      -- at least 2 P U
      obtain ⟨i', hi'⟩ := rep_nat (m := 2 * P) (s := n.toNat) (Nat.le_refl _)
      rw [e] at hk
      have ge : 2 * P * 2 ^ n.toNat ≤ x.z.natAbs * 2 ^ n.toNat := Nat.mul_le_mul_right _ hx
      have l' : D.z.natAbs < 2 * P * 2 ^ n.toNat := l
      have e1 : ((1 : Nat) : Int) = 1 := rfl
      rcases (show x.z * ((2 ^ n.toNat : Nat) : Int) < 0 ∨ 0 ≤ x.z * ((2 ^ n.toNat : Nat) : Int) by omega) with c | c
      · have := nvZ_le_iff.2 (hk.up (-i') (by rw [nvZ_neg, hi', e1, Int.mul_one]; omega))
        rw [nvZ_neg, hi'] at this
        have : D.z ≤ -((2 * P * 2 ^ n.toNat : Nat) : Int) := this
        omega
      · have := nvZ_le_iff.2 (hk.dn i' (by rw [hi', e1, Int.mul_one]; omega))
        rw [hi'] at this
        have : ((2 * P * 2 ^ n.toNat : Nat) : Int) ≤ D.z := this
        omega
/-- scaled: on which side of what is real -/
theorem scaled_side {A A0 n : Int} {B B0 : Nat} (hB : 0 < B) (hB0 : 0 < B0) (hr : A * ((B0 * 2 ^ (-n).toNat : Nat) : Int) = A0 * ((2 ^ n.toNat : Nat) : Int) * (B : Int)) {D y : Int} (hy : y * ((2 ^ n.toNat : Nat) : Int) = D * ((2 ^ (-n).toNat : Nat) : Int)) :
    (D * (B : Int) < A ↔ y * (B0 : Int) < A0) ∧ (A < D * (B : Int) ↔ A0 < y * (B0 : Int)) := by
  have pU := Nat.two_pow_pos n.toNat
  have pD := Nat.two_pow_pos (-n).toNat
  generalize 2 ^ n.toNat = U at *
  generalize 2 ^ (-n).toNat = V at *
  have h1 : D * (B : Int) * ((B0 * V : Nat) : Int) = y * (B0 : Int) * (U : Int) * (B : Int) := by
    have : D * (B : Int) * ((B0 * V : Nat) : Int) = D * (V : Int) * (B0 : Int) * (B : Int) := by rw [Int.natCast_mul]; grind
    rw [this, ← hy]; grind
  have pBV : 0 < B0 * V := Nat.mul_pos hB0 pD
  constructor
  · rw [← lt_scale pBV, h1, hr, lt_scale hB, lt_scale pU]
  · rw [← lt_scale pBV, h1, hr, lt_scale hB, lt_scale pU]
theorem scaled_Nk {A A0 n : Int} {B B0 : Nat} {x : F} (hB : 0 < B) (hB0 : 0 < B0) (hr : A * ((B0 * 2 ^ (-n).toNat : Nat) : Int) = A0 * ((2 ^ n.toNat : Nat) : Int) * (B : Int)) (h0 : Nk x.k A0 B0) (big : 2 * P * B0 ≤ A0.natAbs) : Nk (ldK x n) A B :=
  (comp_Nk hB0 h0 big (ld_Nk x n)).ratio (Nat.mul_pos hB0 (Nat.two_pow_pos _)) hB hr.symm
end Bu
namespace Bu
set_option linter.all false
open Ieee

theorem mul_wrd (x y : F) (hx : x.k ≠ 0) (hy : y.k ≠ 0) : double.mul x.b y.b = some (wrd (x.z * y.z) S) := by
  have sx := z_sign x; have sy := z_sign y
  have zx := z_zero x; have zy := z_zero y
  have hz : x.z * y.z ≠ 0 := fun h => by
    rcases Int.mul_eq_zero.1 h with h | h
    · exact hx (zx.1 h)
    · exact hy (zy.1 h)
  rw [mul_F x y hx hy]
  unfold wrd
  rw [if_neg hz, Int.natAbs_mul]
  congr 2
  rcases (show x.z < 0 ∨ 0 < x.z by have : x.z ≠ 0 := fun h => hx (zx.1 h); omega) with a | a
  · rcases (show y.z < 0 ∨ 0 < y.z by have : y.z ≠ 0 := fun h => hy (zy.1 h); omega) with b | b
    · have := Int.mul_pos_of_neg_of_neg a b
      rw [decide_eq_true (sx.1 a), decide_eq_true (sy.1 b), decide_eq_false (show ¬ x.z * y.z < 0 by omega)]; rfl
    · have := Int.mul_neg_of_neg_of_pos a b
      rw [decide_eq_true (sx.1 a), decide_eq_false (show ¬ y.k < 0 by omega), decide_eq_true this]; rfl
  · rcases (show y.z < 0 ∨ 0 < y.z by have : y.z ≠ 0 := fun h => hy (zy.1 h); omega) with b | b
    · have := Int.mul_neg_of_pos_of_neg a b
      rw [decide_eq_false (show ¬ x.k < 0 by omega), decide_eq_true (sy.1 b), decide_eq_true this]; rfl
    · have := Int.mul_pos a b
      rw [decide_eq_false (show ¬ x.k < 0 by omega), decide_eq_false (show ¬ y.k < 0 by omega), decide_eq_false (show ¬ x.z * y.z < 0 by omega)]; rfl
theorem signed_scale' (C : Int) (neg : Bool) (m : Nat) (i base : Int) (hb : 0 ≤ base + C) (h : base ≤ i) :
    signed neg m (i - base).toNat * ((2 ^ (base + C).toNat : Nat) : Int) = (if neg then -1 else 1) * ((m * 2 ^ (i + C).toNat : Nat) : Int) := by
  rw [signed_eq, Int.mul_assoc, ← Int.natCast_mul, Nat.mul_assoc, ← Nat.pow_add, show (i - base).toNat + (base + C).toNat = (i + C).toNat from by omega]
/-- a product and a sum, rounded once -/
theorem fma_gen {w1 w2 w3 : Nat} {s1 s2 s3 : Bool} {r1 r2 r3 : Nat} (h1 : double.read w1 = .number s1 (man r1) (-1074 + (pl r1 : Int))) (h2 : double.read w2 = .number s2 (man r2) (-1074 + (pl r2 : Int))) (h3 : double.read w3 = .number s3 (man r3) (-1074 + (pl r3 : Int))) {t : Int}
    (ht : t = (if s1 then -1 else 1) * (nv r1 : Int) * ((if s2 then -1 else 1) * (nv r2 : Int)) + (if s3 then -1 else 1) * (nv r3 : Int) * (S : Int)) (h0 : t = 0 → ((s1 ^^ s2) && s3) = false) :
    double.fma w1 w2 w3 = some (wrd t S) := by
  obtain ⟨s, hs, eS⟩ := S_pow
  unfold Format.fma
  rw [h1, h2, h3]
  simp only [Datum.product, Option.bind_some, Datum.sum, Option.map_some, Format.write]
  obtain ⟨base, hbase⟩ : ∃ b : Int, b = min (-1074 + (pl r1 : Int) + (-1074 + (pl r2 : Int))) (-1074 + (pl r3 : Int)) := ⟨_, rfl⟩
  rw [← hbase]
  have k1 := signed_scale' 2148 (s1 ^^ s2) (man r1 * man r2) (-1074 + (pl r1 : Int) + (-1074 + (pl r2 : Int))) base (by omega) (by omega)
  have k2 := signed_scale' 2148 s3 (man r3) (-1074 + (pl r3 : Int)) base (by omega) (by omega)
  have e1 : (if (s1 ^^ s2) then -1 else 1) * ((man r1 * man r2 * 2 ^ (-1074 + (pl r1 : Int) + (-1074 + (pl r2 : Int)) + 2148).toNat : Nat) : Int) = (if s1 then -1 else 1) * (nv r1 : Int) * ((if s2 then -1 else 1) * (nv r2 : Int)) := by
    rw [show (-1074 + (pl r1 : Int) + (-1074 + (pl r2 : Int)) + 2148).toNat = pl r1 + pl r2 from by omega, Nat.pow_add]
    unfold nv
    simp only [Int.natCast_mul]
    cases s1 <;> cases s2 <;> simp only [Bool.xor_false, Bool.xor_true, Bool.false_xor, Bool.true_xor, Bool.not_true, Bool.not_false, if_true, Bool.false_eq_true, if_false, Bool.xor_self] <;> grind
  have e2 : (if s3 then -1 else 1) * ((man r3 * 2 ^ (-1074 + (pl r3 : Int) + 2148).toNat : Nat) : Int) = (if s3 then -1 else 1) * (nv r3 : Int) * (S : Int) := by
    rw [show (-1074 + (pl r3 : Int) + 2148).toNat = pl r3 + s from by omega, Nat.pow_add, ← eS]
    unfold nv
    simp only [Int.natCast_mul]
    generalize ((2 ^ pl r3 : Nat) : Int) = q
    generalize (S : Int) = t
    generalize (man r3 : Int) = m
    cases s3 <;> simp only [if_true, Bool.false_eq_true, if_false] <;> grind
  rw [e1] at k1
  rw [e2] at k2
  generalize signed (s1 ^^ s2) (man r1 * man r2) _ = u at *
  generalize signed s3 (man r3) _ = v at *
  have hp := Nat.two_pow_pos (base + 2148).toNat
  have hz : t = (u + v) * ((2 ^ (base + 2148).toNat : Nat) : Int) := by rw [ht, Int.add_mul, k1, k2]
  have hpos : (0 : Int) < ((2 ^ (base + 2148).toNat : Nat) : Int) := by omega
  have t1 : t = 0 ↔ u + v = 0 := by
    rw [hz]; constructor
    · intro h; rcases Int.mul_eq_zero.1 h with h | h
      · exact h
      · omega
    · intro h; rw [h, Int.zero_mul]
  have t2 : t < 0 ↔ u + v < 0 := by
    rw [hz]
    have := Int.mul_lt_mul_right (b := u + v) (c := 0) hpos
    rw [Int.zero_mul] at this
    exact this
  unfold wrd
  by_cases h0' : u + v = 0
  · rw [if_pos (t1.2 h0')]
    have hx0 := h0 (t1.2 h0')
    rw [h0']
    simp [hx0, Format.nearest, Format.word]
  · rw [if_neg (fun h => h0' (t1.1 h)), if_neg h0', nearest_eq _ _ _ (by omega)]
    simp only [t2]
    have e : near ((u + v).natAbs * 2 ^ (base + 1074).toNat) (2 ^ (-(base + 1074)).toNat) = near t.natAbs S := by
      refine near_ratio (Nat.two_pow_pos _) S_pos ?_
      rw [hz, mul_abs, eS, Nat.mul_assoc, Nat.mul_assoc, ← Nat.pow_add, ← Nat.pow_add]
      congr 2
      omega
    rw [e]
theorem z_form (x : F) : x.z = (if decide (x.k < 0) then -1 else 1) * (nv x.k.natAbs : Int) := by
  show nvZ x.k = _
  rw [nvZ_sign]; rfl
/-- the word of the other sign -/
theorem read_neg (y : F) : ∃ w s r, Go.Op.negFloat .f64 y.b = w ∧ double.read w = .number s (man r) (-1074 + (pl r : Int)) ∧ (if s then -1 else 1) * (nv r : Int) = -y.z ∧ (w = NEG0 ∧ y.k = 0 ∨ w = y.neg.b) := by
  by_cases h : y.k = 0
  · have e : y = F.zero := F.ext' h
    subst e
    have z0 : F.zero.z = 0 := (z_zero F.zero).2 rfl
    refine ⟨_, true, 0, rfl, ?_, ?_, .inl ⟨by decide, h⟩⟩
    · have e1 : Go.Op.negFloat .f64 F.zero.b = NEG0 := by decide
      rw [e1]
      have := read_parts NEG0 true 0 (by decide) rfl
      rwa [if_pos (by decide)] at this
    · rw [z0, nv_zero]; rfl
  · refine ⟨_, _, _, negFloat_F y h, read_F y.neg, ?_, .inr rfl⟩
    rw [← z_form, F.neg_z]
theorem mul_ne {a b : Int} (ha : a ≠ 0) (hb : b ≠ 0) : a * b ≠ 0 := fun h => by
  rcases Int.mul_eq_zero.1 h with h | h
  · exact ha h
  · exact hb h
theorem sign_sum {s1 s2 s3 : Bool} {a b c : Nat} (hab : a * b ≠ 0) (h : (if s1 then -1 else 1) * (a : Int) * ((if s2 then -1 else 1) * (b : Int)) + (if s3 then -1 else 1) * (c : Int) = 0) : ((s1 ^^ s2) && s3) = false := by
  have p : 0 < (a : Int) * b := by have : ((a * b : Nat) : Int) = (a : Int) * b := Int.natCast_mul a b; omega
  cases s1 <;> cases s2 <;> cases s3 <;> simp_all <;> grind
/-- x y - z -/
theorem fma_sub {x y z : F} (hx : x.k ≠ 0) (hy : y.k ≠ 0) : double.fma x.b y.b (Go.Op.negFloat .f64 z.b) = some (wrd (x.z * y.z - z.z * (S : Int)) S) := by
  obtain ⟨w, s, r, e1, e2, e3, _⟩ := read_neg z
  rw [e1]
  have hz : ∀ {x : F}, x.k ≠ 0 → nv x.k.natAbs ≠ 0 := fun {x} h k => h (by have := nv_inj (k.trans nv_zero.symm); omega)
  refine fma_gen (read_F x) (read_F y) e2 ?_ fun h => ?_
  · rw [e3, ← z_form, ← z_form, Int.neg_mul]; omega
  · refine sign_sum (a := nv x.k.natAbs) (b := nv y.k.natAbs) (c := nv r * S) (Nat.mul_ne_zero (hz hx) (hz hy)) ?_
    rw [← z_form, ← z_form, Int.natCast_mul, ← Int.mul_assoc, e3, Int.neg_mul]; omega
/-- -z y + x -/
theorem fma_neg {x y z : F} (hx : x.k ≠ 0) (hy : y.k ≠ 0) : double.fma (Go.Op.negFloat .f64 z.b) y.b x.b = some (wrd (x.z * (S : Int) - z.z * y.z) S) := by
  obtain ⟨w, s, r, e1, e2, e3, _⟩ := read_neg z
  rw [e1]
  have hz : ∀ {x : F}, x.k ≠ 0 → nv x.k.natAbs ≠ 0 := fun {x} h k => h (by have := nv_inj (k.trans nv_zero.symm); omega)
  refine fma_gen e2 (read_F y) (read_F x) ?_ fun h => ?_
  · rw [e3, ← z_form, ← z_form, Int.neg_mul]; omega
  · by_cases r0 : nv r = 0
    · exfalso
      have z0 : z.z = 0 := by rw [r0] at e3; simp at e3; omega
      rw [z0, Int.zero_mul, Int.sub_zero] at h
      have := S_pos
      rcases Int.mul_eq_zero.1 h with h | h
      · exact hx ((z_zero x).1 h)
      · omega
    · refine sign_sum (a := nv r) (b := nv y.k.natAbs) (c := nv x.k.natAbs * S) (Nat.mul_ne_zero r0 (hz hy)) ?_
      rw [e3, ← z_form, Int.natCast_mul, ← Int.mul_assoc, ← z_form, Int.neg_mul]; omega
/-- the same of the word of minus 0 -/
theorem read_NEG0 : double.read NEG0 = .number true (man 0) (-1074 + (pl 0 : Int)) := by
  have := read_parts NEG0 true 0 (by decide) rfl
  rwa [if_pos (by decide)] at this
/-- a whole number of the least places, with its sign -/
theorem wrd_mult {n : Int} {g : F} (h1 : n ≤ g.z) (h2 : -n ≤ g.z) : ∃ d : F, wrd (n * (S : Int)) S = d.b ∧ (0 < d.k ↔ 0 < n) ∧ (d.k < 0 ↔ n < 0) := by
  have hS := S_pos
  have hk := @near_Nk (n * (S : Int)) S hS
  have hg := g.hk
  have n1 : nvZ 1 = 1 := by decide
  have a1 : nearZ (n * (S : Int)) S ≤ g.k := hk.up g.k ((le_scale hS).2 h1)
  have a2 : -g.k ≤ nearZ (n * (S : Int)) S := hk.dn (-g.k) ((le_scale hS).2 (by rw [nvZ_neg]; have : nvZ g.k = g.z := rfl; omega))
  have a3 : 0 < n → 1 ≤ nearZ (n * (S : Int)) S := fun h => hk.dn 1 ((le_scale hS).2 (by rw [n1]; omega))
  have a4 : n < 0 → nearZ (n * (S : Int)) S ≤ -1 := fun h => hk.up (-1) ((le_scale hS).2 (by rw [nvZ_neg, n1]; omega))
  have a5 : n = 0 → nearZ (n * (S : Int)) S = 0 := fun h => by
    subst h
    rw [Int.zero_mul] at hk ⊢
    have b1 := hk.up 0 (by rw [nvZ_zero, Int.zero_mul]; exact Int.le_refl _)
    have b2 := hk.dn 0 (by rw [nvZ_zero, Int.zero_mul]; exact Int.le_refl _)
    omega
  rcases out_wrd (n * (S : Int)) hS with ⟨D, e, k⟩ | ⟨e, k⟩ | ⟨e, h⟩ | ⟨e, h⟩
  · refine ⟨D, e, ?_, ?_⟩ <;> omega
  · have : n = 0 := by omega
    subst this
    refine ⟨F.zero, ?_, ?_, ?_⟩
    · rw [Int.zero_mul]; decide
    · exact ⟨fun h => absurd h (by decide), fun h => absurd h (by decide)⟩
    · exact ⟨fun h => absurd h (by decide), fun h => absurd h (by decide)⟩
  · omega
  · omega
def FrP (f : F) : Prop := f.k.natAbs / P = 1022
@[irreducible] def X19 : Nat := 2 ^ 1019
theorem X19_eq : X19 = 2 ^ 1019 := by unfold X19; rfl
theorem X19_pos : 0 < X19 := X19_eq ▸ Nat.two_pow_pos 1019
theorem S_X : S = 36028797018963968 * X19 := by decide +kernel
theorem FrP.man {f : F} (h : FrP f) : man f.k.natAbs = P + f.k.natAbs % P ∧ pl f.k.natAbs = 1021 := by
  unfold FrP at h
  unfold Bu.man pl
  rw [h]
  refine ⟨?_, rfl⟩
  rw [if_neg]
  intro c
  rw [Nat.div_eq_of_lt c] at h
  omega
theorem X_pow : ∃ a : Nat, a = 1019 ∧ X19 = 2 ^ a := ⟨1019, rfl, X19_eq⟩
theorem X21 {e : Nat} (h : e = 1021) : 2 ^ e = 4 * X19 := by
  obtain ⟨a, ha, eX⟩ := X_pow
  rw [eX, show e = a + 2 by omega, Nat.pow_add, Nat.mul_comm]
theorem FrP.z {f : F} (h : FrP f) : ∃ m : Nat, P ≤ m ∧ m < 2 * P ∧ Bu.man f.k.natAbs = m ∧ f.z.natAbs = m * (4 * X19) := by
  obtain ⟨h1, h2⟩ := h.man
  have := Nat.mod_lt f.k.natAbs P_pos
  refine ⟨P + f.k.natAbs % P, by omega, by omega, h1, ?_⟩
  rw [z_natAbs, h1, X21 h2]
theorem mag_Nk {K M n : Nat} (up : ∀ r, M ≤ nv r * n → K ≤ r) (dn : ∀ r, nv r * n ≤ M → r ≤ K) (neg : Bool) : Nk (if neg then -(K : Int) else K) (if neg then -(M : Int) else M) n := by
  have base : Nk (K : Int) (M : Int) n := by
    constructor
    · intro j h
      by_cases hj : 0 ≤ j
      · obtain ⟨r, rfl⟩ := Int.eq_ofNat_of_zero_le hj
        rw [nvZ_natCast, ← Int.natCast_mul] at h
        have := up r (by omega)
        omega
      · have h1 : nvZ j < nvZ 0 := nvZ_lt (by omega)
        rw [nvZ_zero] at h1
        have hn : nvZ j * (n : Int) ≤ 0 := by
          rcases Nat.eq_zero_or_pos n with c | c
          · rw [c]; simp
          · exact Int.le_of_lt (Int.mul_neg_of_neg_of_pos h1 (by omega))
        have hM : M = 0 := by omega
        rcases Nat.eq_zero_or_pos n with c | c
        · have := dn (K + 1) (by rw [c]; omega); omega
        · have := Int.mul_neg_of_neg_of_pos h1 (show (0 : Int) < n by omega)
          omega
    · intro j h
      by_cases hj : 0 ≤ j
      · obtain ⟨r, rfl⟩ := Int.eq_ofNat_of_zero_le hj
        rw [nvZ_natCast, ← Int.natCast_mul] at h
        have := dn r (by omega)
        omega
      · omega
  cases neg
  · exact base
  · exact base.neg
theorem log2_52 {m : Nat} (h1 : P ≤ m) (h2 : m < 2 * P) : m.log2 = 52 := by
  have a := Nat.log2_self_le (n := m) (by have := P_pos; omega)
  have b : m < 2 ^ (m.log2 + 1) := Nat.lt_log2_self
  rw [P_eq] at h1 h2
  have c : m.log2 < 53 := (Nat.pow_lt_pow_iff_right (a := 2) (by decide)).1 (by omega)
  have d : 52 < m.log2 + 1 := (Nat.pow_lt_pow_iff_right (a := 2) (by decide)).1 (by omega)
  omega
/-- a place that is not small is a multiple -/
theorem nv_coarse {r i : Nat} (k : 2 * P * 2 ^ i ≤ nv r) : ∃ w, nv r = w * 2 ^ i := by
  obtain ⟨n, e⟩ := rep_coarse (z := (nv r : Int)) ⟨(r : Int), nvZ_natCast r⟩ (i := i) (by rw [Int.natAbs_natCast]; exact k)
  refine ⟨n.natAbs, ?_⟩
  have := congrArg Int.natAbs e
  rw [mul_abs, Int.natAbs_natCast] at this
  exact this
theorem X20 {e : Nat} (h : e = 1020) : 2 ^ e = 2 * X19 := by
  obtain ⟨a, ha, eX⟩ := X_pow
  rw [eX, show e = a + 1 by omega, Nat.pow_add, Nat.mul_comm]
def quoN (m n : Nat) : Nat := 2 * (m <<< 54 / n) + (m <<< 54 % n != 0).toNat
theorem quo_facts {m n : Nat} (m1 : P ≤ m) (n1 : P ≤ n) (n2 : n < 2 * P) : (∀ r, m * S ≤ nv r * n → quoN m n * X19 ≤ nv r) ∧ (∀ r, nv r * n ≤ m * S → nv r ≤ quoN m n * X19) := by
  have hP := P_pos
  have hX := X19_pos
  have e54 : m <<< 54 = m * 18014398509481984 := by rw [Nat.shiftLeft_eq]
  have eS : m * S = m * 18014398509481984 * (2 * X19) := by rw [S_X]; grind
  have big : 2 * P * n ≤ m * 18014398509481984 := by
    have e : (18014398509481984 : Nat) = 2 * P * 2 := rfl
    rw [e, Nat.mul_comm m, Nat.mul_assoc (2 * P)]
    exact Nat.mul_le_mul_left _ (by omega)
  have dm := Nat.div_add_mod (m * 18014398509481984) n
  have ml := Nat.mod_lt (m * 18014398509481984) (show 0 < n by omega)
  have q53 : 2 * P ≤ m * 18014398509481984 / n := (Nat.le_div_iff_mul_le (by omega)).2 big
  unfold quoN
  rw [e54, eS]
  generalize m * 18014398509481984 = N at *
  generalize hq : N / n = q at *
  generalize hr : N % n = r at *
  have key : ∀ R, nv R < 2 * P * (2 * X19) ∨ ∃ w, nv R = w * (2 * X19) := by
    intro R
    rcases Nat.lt_or_ge (nv R) (2 * P * (2 * X19)) with c | c
    · exact .inl c
    · right
      obtain ⟨i, hi⟩ : ∃ i : Nat, i = 1020 := ⟨_, rfl⟩
      have := nv_coarse (r := R) (i := i) (by rw [X20 hi]; exact c)
      rwa [X20 hi] at this
  have s1 : (r != 0).toNat = 0 ∧ r = 0 ∨ (r != 0).toNat = 1 ∧ 0 < r := by
    by_cases c : r = 0
    · left; subst c; exact ⟨rfl, rfl⟩
    · right; exact ⟨by simp [c], by omega⟩
  constructor
  · intro R h
    rcases key R with c | ⟨w, e⟩
    · exfalso
      have h1 : nv R * n < 2 * P * (2 * X19) * n := Nat.mul_lt_mul_of_pos_right c (by omega)
      have h2 : 2 * P * n * (2 * X19) ≤ N * (2 * X19) := Nat.mul_le_mul_right _ big
      rw [Nat.mul_right_comm] at h1
      omega
    · rw [e] at h ⊢
      rw [Nat.mul_right_comm] at h
      have h1 : N ≤ w * n := Nat.le_of_mul_le_mul_right h (by omega)
      have h2 : 2 * q + (r != 0).toNat ≤ 2 * w := by
        rcases s1 with ⟨a, b⟩ | ⟨a, b⟩
        · have : q * n ≤ w * n := by rw [Nat.mul_comm q]; omega
          have := Nat.le_of_mul_le_mul_right this (by omega)
          omega
        · have : q * n < w * n := by rw [Nat.mul_comm q]; omega
          have := Nat.lt_of_mul_lt_mul_right this
          omega
      have := Nat.mul_le_mul_right X19 h2
      have e2 : 2 * w * X19 = w * (2 * X19) := by grind
      omega
  · intro R h
    rcases key R with c | ⟨w, e⟩
    · have h1 : 2 * P * (2 * X19) ≤ q * (2 * X19) := Nat.mul_le_mul_right _ q53
      have h2 : q * (2 * X19) = 2 * q * X19 := by grind
      have h3 : 2 * q * X19 ≤ (2 * q + (r != 0).toNat) * X19 := Nat.mul_le_mul_right _ (by omega)
      omega
    · rw [e] at h ⊢
      rw [Nat.mul_right_comm] at h
      have h1 : w * n ≤ N := Nat.le_of_mul_le_mul_right h (by omega)
      have h2 : w ≤ q := by rw [← hq]; exact (Nat.le_div_iff_mul_le (by omega)).2 h1
      have h3 : 2 * w * X19 ≤ (2 * q + (r != 0).toNat) * X19 := Nat.mul_le_mul_right _ (by omega)
      have e2 : 2 * w * X19 = w * (2 * X19) := by grind
      omega
def rHalf : Nat := 4602678819172646912
def rTwo : Nat := 4611686018427387904
theorem rHalf_nv : 2 * nv rHalf = S := by decide +kernel
theorem rTwo_nv : nv rTwo = 2 * S := by decide +kernel
/-- the sign of f S by g, over what is not below 0 -/
def sgA (f g : F) : Int := if g.z < 0 then -(f.z * (S : Int)) else f.z * (S : Int)
theorem div_frac {f g : F} (hf : FrP f) (hg : FrP g) : ∃ c : F, double.div f.b g.b = some c.b ∧ Nk c.k (sgA f g) g.z.natAbs ∧ S ≤ 2 * c.z.natAbs ∧ c.z.natAbs ≤ 2 * S := by
  obtain ⟨m, m1, m2, m3, m4⟩ := hf.z
  obtain ⟨n, n1, n2, n3, n4⟩ := hg.z
  have hP := P_pos
  have pf := hf.man.2; have pg := hg.man.2
  have hS := S_pos
  have hX := X19_pos
  obtain ⟨q1, q2⟩ := quo_facts m1 n1 n2
  have q0 : quoN m n ≠ 0 := by
    intro h
    have := q2 rHalf (by
      have e := rHalf_nv
      have h1 : 2 * nv rHalf * n ≤ 2 * (m * S) := by rw [e, Nat.mul_comm S, ← Nat.mul_assoc]; exact Nat.mul_le_mul_right _ (by omega)
      rw [Nat.mul_assoc] at h1; omega)
    rw [h] at this
    have := rHalf_nv
    omega
  have K1 : near (quoN m n * X19) 1 ≤ rTwo := near_le (by decide) (by
    rw [Nat.mul_one]
    exact q1 rTwo (by rw [rTwo_nv, Nat.mul_comm (2 * S), ← Nat.mul_assoc]; exact Nat.mul_le_mul_right _ (by omega)))
  have K2 : rHalf ≤ near (quoN m n * X19) 1 := le_near (by decide) (by
    rw [Nat.mul_one]
    exact q2 rHalf (by
      have e := rHalf_nv
      have h1 : 2 * nv rHalf * n ≤ 2 * (m * S) := by rw [e, Nat.mul_comm S, ← Nat.mul_assoc]; exact Nat.mul_le_mul_right _ (by omega)
      rw [Nat.mul_assoc] at h1; omega))
  have hK := mag_Nk (K := near (quoN m n * X19) 1) (M := m * S) (n := n) (fun r h => near_le (by decide) (by rw [Nat.mul_one]; exact q1 r h)) (fun r h => le_near (by decide) (by rw [Nat.mul_one]; exact q2 r h)) (decide (f.k < 0) ^^ decide (g.k < 0))
  have hT := T_num
  have rh : rHalf = 4602678819172646912 := rfl
  have rt : rTwo = 4611686018427387904 := rfl
  have hw : double.div f.b g.b = some (double.word (decide (f.k < 0) ^^ decide (g.k < 0)) (near (quoN m n * X19) 1)) := by
    unfold Format.div
    rw [read_F, read_F]
    have l1 := log2_52 m1 m2; have l2 := log2_52 n1 n2
    rw [m3, n3, pf, pg]
    simp only [Datum.quotient, if_neg (show ¬ n = 0 by omega), Option.map_some, Format.write]
    have hfb : double.fractionBits = 52 := rfl
    rw [hfb, l1, l2, show 52 + 2 + 52 - 52 = 54 from rfl]
    have q0' : 2 * (m <<< 54 / n) + (m <<< 54 % n != 0).toNat ≠ 0 := q0
    rw [nearest_eq _ _ _ q0']
    have e1 : (-1074 + ((1021 : Nat) : Int) - (-1074 + ((1021 : Nat) : Int)) - ((54 : Nat) : Int) - 1 + 1074).toNat = 1019 := by decide
    have e2 : (-(-1074 + ((1021 : Nat) : Int) - (-1074 + ((1021 : Nat) : Int)) - ((54 : Nat) : Int) - 1 + 1074)).toNat = 0 := by decide
    rw [e1, e2, Nat.pow_zero, ← X19_eq]
    have e3 : 2 * (m <<< 54 / n) + (m <<< 54 % n != 0).toNat = quoN m n := rfl
    rw [e3, Nat.min_eq_left (by omega)]
  generalize near (quoN m n * X19) 1 = K at *
  have hk0 : ∀ b : Bool, b = true → K ≠ 0 := fun _ _ => by omega
  rw [word_F _ _ (by omega) (hk0 _)] at hw
  refine ⟨_, hw, ?_, ?_, ?_⟩
  · rw [F.of_k (by split <;> omega)]
    refine hK.ratio (by omega) (by rw [n4]; exact Nat.mul_pos (by omega) (by omega)) ?_
    unfold sgA
    have sf := z_sign f; have sg := z_sign g
    have fz : f.z = if f.k < 0 then -((m * (4 * X19) : Nat) : Int) else ((m * (4 * X19) : Nat) : Int) := by
      have h0 : 0 < m * (4 * X19) := Nat.mul_pos (by omega) (by omega)
      clear hK q1 q2
      generalize m * (4 * X19) = w at *
      split <;> omega
    rw [n4, fz]
    rcases (show f.k < 0 ∨ ¬ f.k < 0 by omega) with a | a
    · rcases (show g.k < 0 ∨ ¬ g.k < 0 by omega) with b | b
      · rw [if_pos a, if_pos (sg.2 b), decide_eq_true a, decide_eq_true b]
        simp only [Int.natCast_mul, Bool.xor_self, Bool.false_eq_true, if_false]
        grind
      · rw [if_pos a, if_neg (fun h => b (sg.1 h)), decide_eq_true a, decide_eq_false b]
        simp only [Int.natCast_mul, Bool.xor_false, if_true]
        grind
    · rcases (show g.k < 0 ∨ ¬ g.k < 0 by omega) with b | b
      · rw [if_neg a, if_pos (sg.2 b), decide_eq_false a, decide_eq_true b]
        simp only [Int.natCast_mul, Bool.false_xor, if_true]
        grind
      · rw [if_neg a, if_neg (fun h => b (sg.1 h)), decide_eq_false a, decide_eq_false b]
        simp only [Int.natCast_mul, Bool.xor_self, Bool.false_eq_true, if_false]
        grind
  · rw [z_natAbs', F.of_k (by split <;> omega)]
    have : (if (decide (f.k < 0) ^^ decide (g.k < 0)) = true then -(K : Int) else (K : Int)).natAbs = K := by split <;> omega
    rw [this, ← rHalf_nv]
    have := nv_le K2
    omega
  · rw [z_natAbs', F.of_k (by split <;> omega)]
    have : (if (decide (f.k < 0) ^^ decide (g.k < 0)) = true then -(K : Int) else (K : Int)).natAbs = K := by split <;> omega
    rw [this, ← rTwo_nv]
    exact nv_le K1
end Bu
namespace Bu
set_option linter.all false
open Ieee

def nmF (x : F) : F × Int := if P ≤ x.k.natAbs then (x, 0) else (F.of (flZ (x.z * 4503599627370496)), -52)
structure Nm (x x' : F) (c : Int) : Prop where
  hP : P ≤ x'.k.natAbs
  nv : nv x'.k.natAbs = nv x.k.natAbs * 2 ^ (-c).toNat
  sg : x'.k < 0 ↔ x.k < 0
  c : c = 0 ∨ c = -52
theorem lift_eq {x x' : F} (h : x'.z = x.z * 4503599627370496) : F.of (flZ (x.z * 4503599627370496)) = x' := by
  rw [← h]
  unfold F.z
  rw [flZ_nvZ, F.of_self]
theorem nm_ok {x : F} (hx : x.k ≠ 0) : Nm x (nmF x).1 (nmF x).2 := by
  unfold nmF
  by_cases c : P ≤ x.k.natAbs
  · rw [if_pos c]
    exact ⟨c, by simp, Iff.rfl, .inl rfl⟩
  · rw [if_neg c]
    obtain ⟨x', h1, h2, h3, h4⟩ := lift_sub x (by omega) hx
    rw [lift_eq h1]
    exact ⟨h2, h3, h4, .inr rfl⟩
theorem Nm.z {x x' : F} {c : Int} (h : Nm x x' c) : x.z.natAbs * 2 ^ (-c).toNat = (P + x'.k.natAbs % P) * 2 ^ (x'.k.natAbs / P - 1) := by
  rw [z_natAbs', ← h.nv, nv_norm h.hP]
theorem Nm.q {x x' : F} {c : Int} (h : Nm x x' c) : 1 ≤ x'.k.natAbs / P ∧ x'.k.natAbs / P ≤ 2046 := by
  have := h.hP
  have a : 1 ≤ x'.k.natAbs / P := (Nat.le_div_iff_mul_le P_pos).2 (by omega)
  have := (b_parts x').2.2
  omega
theorem like_nv (x : F) {f r : Nat} (h1 : 1 ≤ f) (h2 : f ≤ 2046) (hr : r < P) : f * P + r < T ∧ (x.like (f * P + r)).z.natAbs = (P + r) * 2 ^ (f - 1) ∧ ((x.like (f * P + r)).z < 0 ↔ x.k < 0) := by
  have hP := P_pos
  have e1 : 1 * P ≤ f * P := Nat.mul_le_mul_right _ h1
  have e2 : f * P ≤ 2046 * P := Nat.mul_le_mul_right _ h2
  have hT : f * P + r < T := by rw [T_eq]; omega
  have hd : (f * P + r) / P = f := by
    rw [Nat.mul_comm, Nat.mul_add_div hP, Nat.div_eq_of_lt hr, Nat.add_zero]
  have hm : (f * P + r) % P = r := by rw [Nat.mul_comm, Nat.mul_add_mod, Nat.mod_eq_of_lt hr]
  have en := nv_norm (r := f * P + r) (by omega)
  rw [hd, hm] at en
  have ep := Nat.two_pow_pos (f - 1)
  have pos : 0 < (P + r) * 2 ^ (f - 1) := Nat.mul_pos (by omega) ep
  refine ⟨hT, ?_, ?_⟩
  · rw [F.like_z x _ hT, en]
    generalize (P + r) * 2 ^ (f - 1) = w at *
    split <;> omega
  · rw [F.like_z x _ hT, en]
    generalize (P + r) * 2 ^ (f - 1) = w at *
    split <;> omega
def frF (x : F) : F := (nmF x).1.like (1022 * P + (nmF x).1.k.natAbs % P)
def exF (x : F) : Int := (((nmF x).1.k.natAbs / P : Nat) : Int) - 1022 + (nmF x).2
theorem sgn_eq {a b : Int} (h : a.natAbs = b.natAbs) (k : a < 0 ↔ b < 0) : a = b := by omega
theorem sc_mk {x y : F} {n : Int} (h : y.z.natAbs * 2 ^ (-n).toNat = x.z.natAbs * 2 ^ n.toNat) (k : y.k < 0 ↔ x.k < 0) : Sc x y n := by
  have sx := z_sign x; have sy := z_sign y
  have p1 := Nat.two_pow_pos (-n).toNat
  have p2 := Nat.two_pow_pos n.toNat
  unfold Sc
  apply sgn_eq
  · rw [mul_abs, mul_abs]; exact h
  · have a := Int.mul_lt_mul_right (b := y.z) (c := 0) (show (0 : Int) < ((2 ^ (-n).toNat : Nat) : Int) by omega)
    have b := Int.mul_lt_mul_right (b := x.z) (c := 0) (show (0 : Int) < ((2 ^ n.toNat : Nat) : Int) by omega)
    rw [Int.zero_mul] at a b
    omega
theorem fr_ok {x : F} (hx : x.k ≠ 0) : FrP (frF x) ∧ Sc (frF x) x (exF x) ∧ (frF x).k ≠ 0 ∧ -1074 ≤ exF x ∧ exF x ≤ 1024 := by
  have h := nm_ok hx
  have hz := h.z
  have hq := h.q
  have hc := h.c
  have hr := Nat.mod_lt (nmF x).1.k.natAbs P_pos
  obtain ⟨l1, l2, l3⟩ := like_nv (nmF x).1 (f := 1022) (by decide) (by decide) hr
  obtain ⟨t, ht⟩ : ∃ t : Nat, t = 1022 - 1 := ⟨_, rfl⟩
  rw [← ht] at l2
  have hsg := h.sg
  unfold frF exF
  generalize (nmF x).1 = x' at *
  generalize (nmF x).2 = c at *
  have hP := P_pos
  have hk : (x'.like (1022 * P + x'.k.natAbs % P)).k.natAbs = 1022 * P + x'.k.natAbs % P := by
    unfold F.like
    rw [F.of_k (by split <;> omega)]
    split <;> omega
  have hk0 : (x'.like (1022 * P + x'.k.natAbs % P)).k ≠ 0 := by omega
  have sg : x.k < 0 ↔ (x'.like (1022 * P + x'.k.natAbs % P)).k < 0 := by
    have := z_sign (x'.like (1022 * P + x'.k.natAbs % P))
    omega
  refine ⟨?_, sc_mk ?_ sg, hk0, by omega, by omega⟩
  · unfold FrP
    rw [hk, Nat.mul_comm, Nat.mul_add_div hP, Nat.div_eq_of_lt hr]
  · rw [l2]
    apply Nat.eq_of_mul_eq_mul_right (Nat.two_pow_pos (-c).toNat)
    rw [Nat.mul_right_comm, hz, Nat.mul_assoc, ← Nat.pow_add, Nat.mul_assoc, Nat.mul_assoc, ← Nat.pow_add, ← Nat.pow_add]
    congr 2
    omega
theorem wrd_ratio {A A' : Int} {B B' : Nat} (hB : 0 < B) (hB' : 0 < B') (h : A * (B' : Int) = A' * (B : Int)) : wrd A B = wrd A' B' := by
  have h0 : A = 0 ↔ A' = 0 := by
    constructor
    · intro e
      rw [e, Int.zero_mul] at h
      rcases Int.mul_eq_zero.1 h.symm with k | k
      · exact k
      · omega
    · intro e
      rw [e, Int.zero_mul] at h
      rcases Int.mul_eq_zero.1 h with k | k
      · exact k
      · omega
  have hs : A < 0 ↔ A' < 0 := by
    have a := Int.mul_lt_mul_right (b := A) (c := 0) (show (0 : Int) < (B' : Int) by omega)
    have b := Int.mul_lt_mul_right (b := A') (c := 0) (show (0 : Int) < (B : Int) by omega)
    rw [Int.zero_mul] at a b
    omega
  have hn : near A.natAbs B = near A'.natAbs B' := by
    refine near_ratio hB hB' ?_
    have := congrArg Int.natAbs h
    rwa [mul_abs, mul_abs] at this
  unfold wrd
  simp only [h0, hs, hn]
theorem wrd_exact {A : Int} {B : Nat} {y : F} (hB : 0 < B) (h : A = y.z * (B : Int)) : wrd A B = y.b := by
  unfold wrd
  by_cases h0 : A = 0
  · rw [if_pos h0]
    rw [h0] at h
    have : y.z = 0 := by
      rcases Int.mul_eq_zero.1 h.symm with k | k
      · exact k
      · omega
    rw [show y = F.zero from F.ext' ((z_zero y).1 this)]; decide
  · rw [if_neg h0]
    have e : A.natAbs = nv y.k.natAbs * B := by rw [h, mul_abs, z_natAbs']
    have hs : A < 0 ↔ y.k < 0 := by
      have b := Int.mul_lt_mul_right (b := y.z) (c := 0) (show (0 : Int) < (B : Int) by omega)
      rw [Int.zero_mul, ← h] at b
      have := z_sign y
      omega
    have hy : y.k ≠ 0 := fun k => h0 (by rw [h, (z_zero y).2 k, Int.zero_mul])
    rw [near_exact hB e, Nat.min_eq_left (by have := y.hk; omega), ← word_sign y hy]
    simp only [hs]
theorem ld_exact {x y : F} {n : Int} (h : Sc x y n) : ldW x n = y.b := wrd_exact (Nat.two_pow_pos _) h.symm
theorem ld_inf {x x' : F} {c n : Int} (h : Nm x x' c) (e : 2047 ≤ n + c + ((x'.k.natAbs / P : Nat) : Int)) : ldW x n = if x.k < 0 then NINF else INF := by
  have hz := h.z
  have hq := h.q
  have hc := h.c
  have hP := P_pos
  have sx := z_sign x
  have pU := Nat.two_pow_pos n.toNat
  have ge : nv T * 2 ^ (-n).toNat ≤ x.z.natAbs * 2 ^ n.toNat := by
    apply Nat.le_of_mul_le_mul_right _ (Nat.two_pow_pos (-c).toNat)
    obtain ⟨t, ht⟩ : ∃ t : Nat, t = 2046 := ⟨_, rfl⟩
    rw [Nat.mul_right_comm x.z.natAbs, hz, nv_T, ← ht, Nat.mul_assoc, Nat.mul_assoc, Nat.mul_assoc, ← Nat.pow_add, ← Nat.pow_add, ← Nat.pow_add]
    exact Nat.mul_le_mul (by omega) (Nat.pow_le_pow_right (by decide) (by omega))
  have near := le_near (n := x.z.natAbs * 2 ^ n.toNat) (Nat.two_pow_pos (-n).toNat) ge
  have hx0 : x.z ≠ 0 := by
    intro k
    rw [k, Int.natAbs_zero, Nat.zero_mul] at hz
    have := Nat.mul_pos (show 0 < P + x'.k.natAbs % P by omega) (Nat.two_pow_pos (x'.k.natAbs / P - 1))
    omega
  unfold ldW wrd
  rw [if_neg (fun k => by rcases Int.mul_eq_zero.1 k with k | k; exact hx0 k; omega), mul_abs, Nat.min_eq_right near]
  have hs := Int.mul_lt_mul_right (b := x.z) (c := 0) (show (0 : Int) < ((2 ^ n.toNat : Nat) : Int) by omega)
  rw [Int.zero_mul] at hs
  by_cases k : x.k < 0
  · rw [if_pos k, decide_eq_true (hs.2 (sx.2 k))]; decide
  · rw [if_neg k, decide_eq_false (fun l => k (sx.1 (hs.1 l)))]; decide
theorem ld_none {x x' : F} {c n : Int} (h : Nm x x' c) (e : n + c + ((x'.k.natAbs / P : Nat) : Int) < -52) : ldW x n = if x.k < 0 then NEG0 else 0 := by
  have hz := h.z
  have hq := h.q
  have hc := h.c
  have hP := P_pos
  have sx := z_sign x
  have hr := Nat.mod_lt x'.k.natAbs P_pos
  have pU := Nat.two_pow_pos n.toNat
  have lt : 2 * (x.z.natAbs * 2 ^ n.toNat) < 2 ^ (-n).toNat := by
    apply Nat.lt_of_mul_lt_mul_right (a := 2 ^ (-c).toNat)
    rw [Nat.mul_assoc 2, Nat.mul_right_comm x.z.natAbs, hz, ← Nat.pow_add]
    have h1 : (P + x'.k.natAbs % P) * 2 ^ (x'.k.natAbs / P - 1) * 2 ^ n.toNat < 2 ^ 53 * 2 ^ (x'.k.natAbs / P - 1 + n.toNat) := by
      rw [Nat.mul_assoc, ← Nat.pow_add]
      exact Nat.mul_lt_mul_of_pos_right (by have : (2 : Nat) ^ 53 = 2 * P := rfl; omega) (Nat.two_pow_pos _)
    have h2 : 2 * (2 ^ 53 * 2 ^ (x'.k.natAbs / P - 1 + n.toNat)) ≤ 2 ^ ((-n).toNat + (-c).toNat) := by
      rw [← Nat.pow_add, Nat.mul_comm, ← Nat.pow_succ]
      exact Nat.pow_le_pow_right (by decide) (by omega)
    omega
  have hx0 : x.z ≠ 0 := by
    intro k
    rw [k, Int.natAbs_zero, Nat.zero_mul] at hz
    have := Nat.mul_pos (show 0 < P + x'.k.natAbs % P by omega) (Nat.two_pow_pos (x'.k.natAbs / P - 1))
    omega
  unfold ldW wrd
  rw [if_neg (fun k => by rcases Int.mul_eq_zero.1 k with k | k; exact hx0 k; omega), mul_abs, near_half lt]
  have hs := Int.mul_lt_mul_right (b := x.z) (c := 0) (show (0 : Int) < ((2 ^ n.toNat : Nat) : Int) by omega)
  rw [Int.zero_mul] at hs
  by_cases k : x.k < 0
  · rw [if_pos k, decide_eq_true (hs.2 (sx.2 k))]; decide
  · rw [if_neg k, decide_eq_false (fun l => k (sx.1 (hs.1 l)))]; decide
theorem ld_norm {x x' : F} {c n : Int} {f : Nat} (h : Nm x x' c) (e : n + c + ((x'.k.natAbs / P : Nat) : Int) = f) (h1 : 1 ≤ f) (h2 : f ≤ 2046) : ldW x n = (x'.like (f * P + x'.k.natAbs % P)).b := by
  have hz := h.z
  have hq := h.q
  have hc := h.c
  have hsg := h.sg
  obtain ⟨l1, l2, l3⟩ := like_nv x' h1 h2 (Nat.mod_lt x'.k.natAbs P_pos)
  refine ld_exact (sc_mk ?_ ?_)
  · rw [l2]
    apply Nat.eq_of_mul_eq_mul_right (Nat.two_pow_pos (-c).toNat)
    rw [Nat.mul_right_comm x.z.natAbs, hz, Nat.mul_assoc, Nat.mul_assoc, Nat.mul_assoc, ← Nat.pow_add, ← Nat.pow_add, ← Nat.pow_add]
    congr 2
    omega
  · have := z_sign (x'.like (f * P + x'.k.natAbs % P))
    omega
def F53 : F := F.of 4368491638549381120
theorem F53_z : F53.z * 9007199254740992 = S := by decide +kernel
theorem F53_k : F53.k ≠ 0 := by decide +kernel
theorem ld_sub {x x' : F} {c n : Int} {f : Nat} (h : Nm x x' c) (e : n + c + ((x'.k.natAbs / P : Nat) : Int) + 53 = f) (h1 : 1 ≤ f) (h2 : f ≤ 53) : double.mul F53.b (x'.like (f * P + x'.k.natAbs % P)).b = some (ldW x n) := by
  have hz := h.z
  have hq := h.q
  have hc := h.c
  have hsg := h.sg
  have sx := z_sign x
  obtain ⟨l1, l2, l3⟩ := like_nv x' h1 (show f ≤ 2046 by omega) (Nat.mod_lt x'.k.natAbs P_pos)
  have hy0 : (x'.like (f * P + x'.k.natAbs % P)).k ≠ 0 := by
    intro k
    have := (z_zero _).2 k
    rw [this, Int.natAbs_zero] at l2
    have := Nat.mul_pos (show 0 < P + x'.k.natAbs % P by have := P_pos; omega) (Nat.two_pow_pos (f - 1))
    omega
  rw [mul_wrd _ _ F53_k hy0]
  congr 1
  unfold ldW
  have hS := S_pos
  have pD := Nat.two_pow_pos (-n).toNat
  have pU := Nat.two_pow_pos n.toNat
  refine wrd_ratio hS pD ?_
  -- y 2^-n 2^-c = x 2^n 2^53 2^-c
  have key : (x'.like (f * P + x'.k.natAbs % P)).z * ((2 ^ (-n).toNat : Nat) : Int) = x.z * ((2 ^ n.toNat : Nat) : Int) * 9007199254740992 := by
    apply sgn_eq
    · rw [mul_abs, l2, Int.natAbs_mul, mul_abs]
      apply Nat.eq_of_mul_eq_mul_right (Nat.two_pow_pos (-c).toNat)
      have e53 : (9007199254740992 : Int).natAbs = 2 ^ 53 := rfl
      rw [e53, Nat.mul_assoc x.z.natAbs, Nat.mul_right_comm x.z.natAbs, hz, Nat.mul_assoc, Nat.mul_assoc, Nat.mul_assoc, ← Nat.pow_add, ← Nat.pow_add, ← Nat.pow_add, ← Nat.pow_add]
      congr 2
      omega
    · have a := Int.mul_lt_mul_right (b := (x'.like (f * P + x'.k.natAbs % P)).z) (c := 0) (show (0 : Int) < ((2 ^ (-n).toNat : Nat) : Int) by omega)
      have b := Int.mul_lt_mul_right (b := x.z) (c := 0) (show (0 : Int) < ((2 ^ n.toNat : Nat) : Int) by omega)
      rw [Int.zero_mul] at a b
      generalize (x'.like (f * P + x'.k.natAbs % P)).z * ((2 ^ (-n).toNat : Nat) : Int) = p at *
      generalize x.z * ((2 ^ n.toNat : Nat) : Int) = r at *
      omega
  have e3 := F53_z
  have e4 : F53.z * (x'.like (f * P + x'.k.natAbs % P)).z * ((2 ^ (-n).toNat : Nat) : Int) = F53.z * ((x'.like (f * P + x'.k.natAbs % P)).z * ((2 ^ (-n).toNat : Nat) : Int)) := Int.mul_assoc _ _ _
  rw [e4, key, ← e3]
  generalize x.z * ((2 ^ n.toNat : Nat) : Int) = r
  grind
end Bu
