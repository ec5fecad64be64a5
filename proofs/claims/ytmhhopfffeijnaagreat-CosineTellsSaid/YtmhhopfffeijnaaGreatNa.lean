/- The sign of what a sum lacks, as six sums tell it (of any two numbers, in any order), over whole numbers. -/
import Derived.Test.YtmhhopfffeijnaaGreatFc
namespace Bu
set_option linter.all false

/-- a number of the ladder without an end -/
def Rep (z : Int) : Prop := ∃ k : Int, nvZ k = z
theorem Rep.neg {z : Int} (h : Rep z) : Rep (-z) := by
  obtain ⟨k, rfl⟩ := h
  exact ⟨-k, nvZ_neg k⟩
theorem rep_nat {m s : Nat} (h : m ≤ 2 * P) : Rep ((m * 2 ^ s : Nat) : Int) := ⟨((fl (m * 2 ^ s) : Nat) : Int), by rw [nvZ_natCast, nv_fl_exact h]⟩
theorem rep_mk {m : Int} {s : Nat} (h : m.natAbs ≤ 2 * P) : Rep (m * ((2 ^ s : Nat) : Int)) := by
  obtain ⟨n, e | e⟩ : ∃ n : Nat, m = (n : Int) ∨ m = -(n : Int) := ⟨m.natAbs, by omega⟩
  · rw [e, ← Int.natCast_mul]
    exact rep_nat (by omega)
  · rw [e, Int.neg_mul, ← Int.natCast_mul]
    exact (rep_nat (by omega)).neg
theorem man_lt' (r : Nat) : man r < 2 * P := by
  unfold man
  have hP := P_pos
  split
  · omega
  · have := Nat.mod_lt r hP; omega
theorem rep_parts {z : Int} (h : Rep z) : ∃ (m : Int) (s : Nat), z = m * ((2 ^ s : Nat) : Int) ∧ m.natAbs < 2 * P ∧ (s = 0 ∨ P ≤ m.natAbs) := by
  obtain ⟨k, rfl⟩ := h
  have e : ((if decide (k < 0) then -1 else 1) * ((man k.natAbs : Nat) : Int)).natAbs = man k.natAbs := by split <;> omega
  refine ⟨(if decide (k < 0) then -1 else 1) * ((man k.natAbs : Nat) : Int), pl k.natAbs, ?_, ?_, ?_⟩
  · rw [nvZ_sign, Int.natCast_mul, Int.mul_assoc]
  · rw [e]; exact man_lt' _
  · rw [e]
    unfold man pl
    have hP := P_pos
    split
    · next c => left; rw [Nat.div_eq_of_lt c]
    · right; omega
theorem mul_abs (n : Int) (u : Nat) : (n * (u : Int)).natAbs = n.natAbs * u := by rw [Int.natAbs_mul, Int.natAbs_natCast]
theorem pow_split {i j : Nat} (h : i ≤ j) : ∃ d : Nat, 2 ^ j = d * 2 ^ i ∧ 0 < d := ⟨2 ^ (j - i), by rw [← Nat.pow_add]; congr 1; omega, Nat.two_pow_pos _⟩
theorem pow_lift {m : Int} {i j : Nat} (h : i ≤ j) : ∃ n : Int, m * ((2 ^ j : Nat) : Int) = n * ((2 ^ i : Nat) : Int) := by
  obtain ⟨d, e, _⟩ := pow_split h
  exact ⟨m * d, by rw [e, Int.natCast_mul, Int.mul_assoc]⟩

/-- a number of the ladder that is as near as any -/
def Nst (r v : Int) : Prop := Rep r ∧ ∀ c, Rep c → (r - v).natAbs ≤ (c - v).natAbs
theorem Nst.neg {r v : Int} (h : Nst r v) : Nst (-r) (-v) := ⟨h.1.neg, fun c hc => by have := h.2 _ hc.neg; omega⟩
theorem Nst.exact {r v : Int} (h : Nst r v) (k : Rep v) : r = v := by have := h.2 v k; omega
theorem rep_zero : Rep 0 := ⟨0, nvZ_zero⟩
theorem rep_one : Rep 1 := ⟨1, by decide⟩
theorem Nst.pos {r v : Int} (h : Nst r v) (k : 0 < v) : 0 < r := by have := h.2 1 rep_one; omega
theorem Nst.nn {r v : Int} (h : Nst r v) (k : 0 ≤ v) : 0 ≤ r := by have := h.2 0 rep_zero; omega
theorem Nst.ge {r v c : Int} (h : Nst r v) (hc : Rep c) (k : c ≤ v) : c ≤ r := by have := h.2 c hc; omega
theorem Nst.le {r v c : Int} (h : Nst r v) (hc : Rep c) (k : v ≤ c) : r ≤ c := by have := h.2 c hc; omega
theorem nst_near {r n : Int} {i : Nat} (h : Nst r (n * ((2 ^ i : Nat) : Int))) (hr : r.natAbs < 2 * P * 2 ^ i) : n.natAbs ≤ 2 * P := by
  apply Nat.le_of_not_lt
  intro c
  have q1 := h.2 _ (rep_nat (m := 2 * P) (s := i) (Nat.le_refl _))
  have q2 := h.2 _ (rep_nat (m := 2 * P) (s := i) (Nat.le_refl _)).neg
  have e := mul_abs n (2 ^ i)
  have l : (2 * P + 1) * 2 ^ i ≤ n.natAbs * 2 ^ i := Nat.mul_le_mul_right _ c
  rw [Nat.add_mul, Nat.one_mul] at l
  have p := Nat.two_pow_pos i
  generalize 2 * P * 2 ^ i = w at *
  generalize n.natAbs * 2 ^ i = k at *
  generalize n * ((2 ^ i : Nat) : Int) = v at *
  omega
theorem nst_mul {r v : Int} {i : Nat} (h : Nst r v) (hv : ∃ n : Int, v = n * ((2 ^ i : Nat) : Int)) : ∃ n : Int, r = n * ((2 ^ i : Nat) : Int) := by
  obtain ⟨n, rfl⟩ := hv
  obtain ⟨m, s, e, hm, hs⟩ := rep_parts h.1
  by_cases c : i ≤ s
  · rw [e]; exact pow_lift c
  · refine ⟨n, h.exact (rep_mk (nst_near h ?_))⟩
    rw [e, mul_abs]
    have h1 : m.natAbs * 2 ^ s < 2 * P * 2 ^ s := Nat.mul_lt_mul_of_pos_right hm (Nat.two_pow_pos s)
    have h2 : 2 * P * 2 ^ s ≤ 2 * P * 2 ^ i := Nat.mul_le_mul_left _ (Nat.pow_le_pow_right (by decide) (by omega))
    omega
theorem coarse {a b m : Int} {i : Nat} (ea : a = m * ((2 ^ i : Nat) : Int)) (hm : i = 0 ∨ P ≤ m.natAbs) (hb : Rep b) (h : a.natAbs ≤ b.natAbs) : ∃ n : Int, b = n * ((2 ^ i : Nat) : Int) := by
  obtain ⟨n, j, eb, hn, _⟩ := rep_parts hb
  by_cases c : i ≤ j
  · rw [eb]; exact pow_lift c
  · exfalso
    rw [ea, eb, mul_abs, mul_abs] at h
    have hP : P ≤ m.natAbs := by omega
    have h1 : n.natAbs * 2 ^ j < 2 * P * 2 ^ j := Nat.mul_lt_mul_of_pos_right hn (Nat.two_pow_pos j)
    have h2 : P * 2 ^ i ≤ m.natAbs * 2 ^ i := Nat.mul_le_mul_right _ hP
    have h3 : P * (2 * 2 ^ j) ≤ P * 2 ^ i := Nat.mul_le_mul_left _ (by
      have : 2 ^ (j + 1) ≤ 2 ^ i := Nat.pow_le_pow_right (by decide) (by omega)
      rw [Nat.pow_succ] at this; omega)
    rw [← Nat.mul_assoc, Nat.mul_comm P 2] at h3
    omega
theorem rep_small {a b : Int} (ha : Rep a) (hb : Rep b) (h : a.natAbs ≤ b.natAbs) (k : (a + b).natAbs ≤ a.natAbs) : Rep (a + b) := by
  obtain ⟨m, i, ea, hm, hs⟩ := rep_parts ha
  obtain ⟨n, eb⟩ := coarse ea hs hb h
  have hsum : a + b = (m + n) * ((2 ^ i : Nat) : Int) := by rw [ea, eb, Int.add_mul]
  rw [hsum, ea, mul_abs, mul_abs] at k
  have := Nat.le_of_mul_le_mul_right k (Nat.two_pow_pos i)
  rw [hsum]
  exact rep_mk (by omega)
theorem rep_err {a b c : Int} (ha : Rep a) (hb : Rep b) (h : a.natAbs ≤ b.natAbs) (k : Nst c (a + b)) : Rep (c - (a + b)) := by
  obtain ⟨m, i, ea, hm, hs⟩ := rep_parts ha
  obtain ⟨n, eb⟩ := coarse ea hs hb h
  have hsum : a + b = (m + n) * ((2 ^ i : Nat) : Int) := by rw [ea, eb, Int.add_mul]
  obtain ⟨q, ec⟩ := nst_mul k ⟨_, hsum⟩
  have hd : c - (a + b) = (q - (m + n)) * ((2 ^ i : Nat) : Int) := by rw [ec, hsum, Int.sub_mul]
  have h1 := k.2 b hb
  rw [hd]
  apply rep_mk
  have e1 := mul_abs (q - (m + n)) (2 ^ i)
  have e2 := mul_abs m (2 ^ i)
  rw [← hd] at e1
  rw [← ea] at e2
  have : (q - (m + n)).natAbs * 2 ^ i ≤ m.natAbs * 2 ^ i := by omega
  have := Nat.le_of_mul_le_mul_right this (Nat.two_pow_pos i)
  omega
theorem part_fin {q n m t : Int} {w : Nat} (h6 : (q - (n + m)).natAbs ≤ (2 * t - (n + m)).natAbs) (ht : n + m = 2 * t ∨ n + m + 1 = 2 * t) (hm : m.natAbs < w) (c : ¬ (q - n).natAbs ≤ w) : False := by omega
theorem rep_part {a b x : Int} (ha : Rep a) (hb : Rep b) (h : b.natAbs ≤ a.natAbs) (k : Nst x (a + b)) : Rep (x - a) := by
  obtain ⟨m, j, eb, hm, hs⟩ := rep_parts hb
  obtain ⟨n, ea⟩ := coarse eb hs ha h
  have hsum : a + b = (n + m) * ((2 ^ j : Nat) : Int) := by rw [ea, eb, Int.add_mul]
  obtain ⟨q, ex⟩ := nst_mul k ⟨_, hsum⟩
  have hd : x - a = (q - n) * ((2 ^ j : Nat) : Int) := by rw [ex, ea, Int.sub_mul]
  by_cases c : (q - n).natAbs ≤ 2 * P
  · rw [hd]; exact rep_mk c
  · have p := Nat.two_pow_pos j
    obtain ⟨n', jj, ea', hn', hs'⟩ := rep_parts ha
    by_cases c1 : j + 1 ≤ jj
    · obtain ⟨q', s, ex', hq', hs''⟩ := rep_parts k.1
      by_cases c2 : j + 1 ≤ s
      · obtain ⟨u, eu⟩ := pow_lift (m := n') c1
        obtain ⟨v, ev⟩ := pow_lift (m := q') c2
        have hd' : x - a = (v - u) * ((2 ^ (j + 1) : Nat) : Int) := by rw [ex', ea', eu, ev, Int.sub_mul]
        rw [hd']
        apply rep_mk
        have h1 := k.2 a ha
        have e1 := mul_abs (v - u) (2 ^ (j + 1))
        rw [← hd'] at e1
        have e2 := mul_abs m (2 ^ j)
        rw [← eb] at e2
        have h3 : m.natAbs * 2 ^ j < 2 * P * 2 ^ j := Nat.mul_lt_mul_of_pos_right hm p
        have h4 : (v - u).natAbs * 2 ^ (j + 1) ≤ 2 * P * 2 ^ (j + 1) := by
          have e5 : 2 * P * 2 ^ (j + 1) = 2 * (2 * P * 2 ^ j) := by rw [Nat.pow_succ]; generalize 2 * P = w; generalize 2 ^ j = z; grind
          rw [← e1, e5]
          clear e1 e5 hd' hd ev eu
          generalize 2 * P * 2 ^ j = w at *
          generalize m.natAbs * 2 ^ j = z at *
          omega
        exact Nat.le_of_mul_le_mul_right h4 (Nat.two_pow_pos (j + 1))
      · have hx : x.natAbs < 2 * P * 2 ^ j := by
          rw [ex', mul_abs]
          have h1 : q'.natAbs * 2 ^ s < 2 * P * 2 ^ s := Nat.mul_lt_mul_of_pos_right hq' (Nat.two_pow_pos s)
          have h2 : 2 * P * 2 ^ s ≤ 2 * P * 2 ^ j := Nat.mul_le_mul_left _ (Nat.pow_le_pow_right (by decide) (by omega))
          omega
        have k' := k
        rw [hsum] at k'
        have := k'.exact (rep_mk (nst_near k' hx))
        rw [← hsum] at this
        rw [this, show a + b - a = b by omega]
        exact hb
    · exfalso
      have hn : n.natAbs < 2 * P := by
        have h1 : a.natAbs < 2 * P * 2 ^ j := by
          rw [ea', mul_abs]
          have h1 : n'.natAbs * 2 ^ jj < 2 * P * 2 ^ jj := Nat.mul_lt_mul_of_pos_right hn' (Nat.two_pow_pos jj)
          have h2 : 2 * P * 2 ^ jj ≤ 2 * P * 2 ^ j := Nat.mul_le_mul_left _ (Nat.pow_le_pow_right (by decide) (by omega))
          omega
        rw [ea, mul_abs] at h1
        exact Nat.lt_of_mul_lt_mul_right h1
      -- an even neighbour
      obtain ⟨t, ht⟩ : ∃ t : Int, n + m = 2 * t ∨ n + m + 1 = 2 * t := ⟨(n + m + 1) / 2, by omega⟩
      have hc := k.2 _ (rep_mk (m := t) (s := j + 1) (by omega))
      have e3 : t * ((2 ^ (j + 1) : Nat) : Int) = 2 * t * ((2 ^ j : Nat) : Int) := by rw [Nat.pow_succ, Int.natCast_mul]; generalize ((2 ^ j : Nat) : Int) = z; grind
      rw [e3, hsum, ← Int.sub_mul, mul_abs] at hc
      have hx := mul_abs (q - (n + m)) (2 ^ j)
      rw [Int.sub_mul, ← ex] at hx
      have h5 : (q - (n + m)).natAbs * 2 ^ j ≤ (2 * t - (n + m)).natAbs * 2 ^ j := by omega
      have h6 := Nat.le_of_mul_le_mul_right h5 p
      exact part_fin h6 ht hm c
theorem rep_two {z : Int} (h : Rep z) : Rep (2 * z) := by
  obtain ⟨m, s, e, hm, _⟩ := rep_parts h
  have e3 : 2 * z = m * ((2 ^ (s + 1) : Nat) : Int) := by rw [e, Nat.pow_succ, Int.natCast_mul]; generalize ((2 ^ s : Nat) : Int) = z; grind
  rw [e3]
  exact rep_mk (by omega)
theorem two_pos {a b s c a' p q d : Int} (ha : Rep a) (hb : Rep b) (hs : Nst s (a + b)) (hc : Nst c (s - a)) (ha' : Nst a' (s - c)) (hp : Nst p (a - a')) (hq : Nst q (b - c)) (hd : Nst d (p + q)) (h : s < a + b) : 0 < d := by
  by_cases c1 : b.natAbs ≤ a.natAbs
  · have e1 := hc.exact (rep_part ha hb c1 hs)
    have e2 : a' = a := by
      have e : s - c = a := by omega
      rw [e] at ha'
      exact ha'.exact ha
    have e3 : p = 0 := by
      rw [show a - a' = 0 by omega] at hp
      exact hp.exact rep_zero
    have e4 := hq.pos (by omega)
    exact hd.pos (by omega)
  · by_cases c2 : s.natAbs < a.natAbs
    · exfalso
      have l : (a + b).natAbs ≤ a.natAbs := by
        have := hs.2 a ha
        have := hs.2 (-a) ha.neg
        omega
      have := hs.exact (rep_small ha hb (by omega) l)
      omega
    · have hc' : Nst c (s + -a) := by rwa [show s + -a = s - a by omega]
      have r1 := rep_part hs.1 ha.neg (by omega) hc'
      have e1 : a' = s - c := ha'.exact (by have := r1.neg; rwa [show -(c - s) = s - c by omega] at this)
      have r2 := rep_err ha.neg hs.1 (by omega) (by rwa [show -a + s = s - a by omega])
      have e2 : p = a - a' := hp.exact (by rwa [show a - a' = c - (-a + s) by omega])
      have hn := hc.2 b hb
      by_cases c3 : 0 < (s - a) - c
      · have r3 := rep_two r2.neg
        have := hq.ge r3 (by omega)
        exact hd.pos (by omega)
      · have := hq.nn (by omega)
        by_cases c4 : (s - a) - c = 0
        · have := hq.pos (by omega)
          exact hd.pos (by omega)
        · exact hd.pos (by omega)
/-- the sign of what is lacking -/
theorem two_sum {a b s c a' p q d : Int} (ha : Rep a) (hb : Rep b) (hs : Nst s (a + b)) (hc : Nst c (s - a)) (ha' : Nst a' (s - c)) (hp : Nst p (a - a')) (hq : Nst q (b - c)) (hd : Nst d (p + q)) : (0 < d ↔ s < a + b) ∧ (d < 0 ↔ a + b < s) := by
  have neg : a + b < s → d < 0 := fun h => by
    have := two_pos (a := -a) (b := -b) (s := -s) (c := -c) (a' := -a') (p := -p) (q := -q) (d := -d) ha.neg hb.neg
      (by have := hs.neg; rwa [show -(a + b) = -a + -b by omega] at this)
      (by have := hc.neg; rwa [show -(s - a) = -s - -a by omega] at this)
      (by have := ha'.neg; rwa [show -(s - c) = -s - -c by omega] at this)
      (by have := hp.neg; rwa [show -(a - a') = -a - -a' by omega] at this)
      (by have := hq.neg; rwa [show -(b - c) = -b - -c by omega] at this)
      (by have := hd.neg; rwa [show -(p + q) = -p + -q by omega] at this) (by omega)
    omega
  have pos := two_pos ha hb hs hc ha' hp hq hd
  have eq : s = a + b → d = 0 := fun h => by
    have e1 : c = b := by
      rw [show s - a = b by omega] at hc
      exact hc.exact hb
    have e2 : a' = a := by
      rw [show s - c = a by omega] at ha'
      exact ha'.exact ha
    have e3 : p = 0 := by
      rw [show a - a' = 0 by omega] at hp
      exact hp.exact rep_zero
    have e4 : q = 0 := by
      rw [show b - c = 0 by omega] at hq
      exact hq.exact rep_zero
    rw [e3, e4] at hd
    exact hd.exact rep_zero
  constructor
  · exact ⟨fun h => by rcases Int.lt_trichotomy s (a + b) with k | k | k; exact k; (have := eq k; omega); (have := neg k; omega), pos⟩
  · exact ⟨fun h => by rcases Int.lt_trichotomy s (a + b) with k | k | k; (have := pos k; omega); (have := eq k; omega); exact k, neg⟩
/-- where a sum is not exact, neither is much greater than it -/
theorem sum_bd {a b : Int} (ha : Rep a) (hb : Rep b) (h : ¬ Rep (a + b)) : a.natAbs ≤ 2 * (a + b).natAbs ∧ b.natAbs ≤ 2 * (a + b).natAbs := by
  have key : ∀ {a b : Int}, Rep a → Rep b → ¬ Rep (a + b) → a.natAbs ≤ b.natAbs → a.natAbs < (a + b).natAbs := by
    intro a b ha hb h k
    apply Nat.lt_of_not_le
    intro c
    exact h (rep_small ha hb k c)
  rcases Nat.le_total a.natAbs b.natAbs with c | c
  · have := key ha hb h c
    omega
  · have := key hb ha (by rwa [Int.add_comm]) c
    omega
end Bu
