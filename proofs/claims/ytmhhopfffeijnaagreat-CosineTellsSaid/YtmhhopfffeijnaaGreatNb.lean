/- Nearest numbers by their places on the ladder; a number's neighbours; on which side of a number what is real is. -/
import Derived.Test.YtmhhopfffeijnaaGreatNa
import Derived.Test.YtmhhopfffeijnaaGreatFs
import Derived.Test.YtmhhopfffeijnaaGreatGd
namespace Bu
set_option linter.all false
open Ieee

def INF : Nat := 9218868437227405312
def NINF : Nat := 18442240474082181120
def NEG0 : Nat := 9223372036854775808

/-- a place that is down or up of A / B -/
structure Nk (k A : Int) (B : Nat) : Prop where
  up : ∀ j, A ≤ nvZ j * (B : Int) → k ≤ j
  dn : ∀ j, nvZ j * (B : Int) ≤ A → j ≤ k
def upN (c : F) : F × Int := if c.k + 1 < (T : Int) then (F.of (c.k + 1), 0) else (F.zero, 10)
def dnN (c : F) : F × Int := if -(T : Int) < c.k - 1 then (F.of (c.k - 1), 0) else (F.zero, 10)
/-- the number by one that is next to what is real, as far as there is one -/
def sideF (c : F) (pos neg up : Bool) : F × Int := bif up then (bif pos then upN c else (c, 0)) else (bif neg then dnN c else (c, 0))
theorem side_ok {c : F} {A : Int} {B : Nat} (hB : 0 < B) (h : Nk c.k A B) {pos neg up : Bool} (hp : pos = true ↔ c.z * (B : Int) < A) (hn : neg = true ↔ A < c.z * (B : Int)) : sideF c pos neg up = rndR up A B := by
  have hT := T_num
  have hk := c.hk
  cases up
  · have l := fun k => @le_flI k A B hB
    unfold sideF rndR outDn
    simp only [cond_false, Bool.false_eq_true, if_false]
    cases neg
    · have n1 : ¬ A < c.z * (B : Int) := fun k => absurd (hn.2 k) (by decide)
      have e : flI A B = c.k := by
        have a := (l c.k).2 (by show c.z * _ ≤ A; omega)
        have b := h.dn _ ((l (flI A B)).1 (Int.le_refl _))
        omega
      rw [cond_false, e, if_neg (by omega), Int.min_eq_left (by omega), F.of_self]
    · have n1 := hn.1 rfl
      have e : flI A B = c.k - 1 := by
        have a : c.k - 1 ≤ flI A B := (l _).2 (by
          apply Int.not_lt.1
          intro k
          have := h.up (c.k - 1) (Int.le_of_lt k)
          omega)
        have b : ¬ c.k ≤ flI A B := fun k => by
          have : c.z * (B : Int) ≤ A := (l _).1 k
          omega
        omega
      rw [cond_true, e]
      unfold dnN
      by_cases c1 : -(T : Int) < c.k - 1
      · rw [if_pos c1, if_neg (by omega), Int.min_eq_left (by omega)]
      · rw [if_neg c1, if_pos (by omega)]
  · have l := fun k => @ceI_le k A B hB
    unfold sideF rndR outUp
    simp only [cond_true, if_true]
    cases pos
    · have n1 : ¬ c.z * (B : Int) < A := fun k => absurd (hp.2 k) (by decide)
      have e : ceI A B = c.k := by
        have a := (l c.k).2 (by show A ≤ c.z * _; omega)
        have b := h.up _ ((l (ceI A B)).1 (Int.le_refl _))
        omega
      rw [cond_false, e, if_neg (by omega), Int.max_eq_left (by omega), F.of_self]
    · have n1 := hp.1 rfl
      have e : ceI A B = c.k + 1 := by
        have a : ceI A B ≤ c.k + 1 := (l _).2 (by
          apply Int.not_lt.1
          intro k
          have := h.dn (c.k + 1) (Int.le_of_lt k)
          omega)
        have b : ¬ ceI A B ≤ c.k := fun k => by
          have : A ≤ c.z * (B : Int) := (l _).1 k
          omega
        omega
      rw [cond_true, e]
      unfold upN
      by_cases c1 : c.k + 1 < (T : Int)
      · rw [if_pos c1, if_neg (by omega), Int.max_eq_left (by omega)]
      · rw [if_neg c1, if_pos (by omega)]
theorem over_ok {A : Int} {B : Nat} (hB : 0 < B) (h : ∀ c : F, c.z * (B : Int) < A) (up : Bool) : rndR up A B = bif up then (F.zero, 10) else (F.max, 0) := by
  have hT := T_num
  have h1 := h F.max
  have e1 : F.max.k = (T : Int) - 1 := rfl
  cases up
  · have a := (@le_flI F.max.k A B hB).2 (by show F.max.z * _ ≤ A; omega)
    unfold rndR outDn
    simp only [cond_false, Bool.false_eq_true, if_false]
    rw [if_neg (by omega), Int.min_eq_right (by omega), ← e1, F.of_self]
  · have a : ¬ ceI A B ≤ F.max.k := fun k => by
      have : A ≤ F.max.z * (B : Int) := (@ceI_le _ A B hB).1 k
      omega
    unfold rndR outUp
    simp only [cond_true, if_true]
    rw [if_pos (by omega)]
theorem under_ok {A : Int} {B : Nat} (hB : 0 < B) (h : ∀ c : F, A < c.z * (B : Int)) (up : Bool) : rndR up A B = bif up then (F.min, 0) else (F.zero, 10) := by
  have hT := T_num
  have h1 := h F.min
  have e1 : F.min.k = 1 - (T : Int) := rfl
  cases up
  · have a : ¬ F.min.k ≤ flI A B := fun k => by
      have : F.min.z * (B : Int) ≤ A := (@le_flI _ A B hB).1 k
      omega
    unfold rndR outDn
    simp only [cond_false, Bool.false_eq_true, if_false]
    rw [if_pos (by omega)]
  · have a := (@ceI_le F.min.k A B hB).2 (by show A ≤ F.min.z * _; omega)
    unfold rndR outUp
    simp only [cond_true, if_true]
    rw [if_neg (by omega), Int.max_eq_right (by omega), ← e1, F.of_self]

/-! the nearest one -/
def nearZ (A : Int) (B : Nat) : Int := if A < 0 then -(near A.natAbs B : Int) else (near A.natAbs B : Int)
theorem neg_pos_mul {a b : Int} (h : a < 0) (k : 0 < b) : a * b < 0 := Int.mul_neg_of_neg_of_pos h k
theorem near_Nk {A : Int} {B : Nat} (hB : 0 < B) : Nk (nearZ A B) A B := by
  have hBi : (0 : Int) < B := by omega
  have pos : ∀ {j : Int}, 0 ≤ j → nvZ j * (B : Int) = ((nv j.natAbs * B : Nat) : Int) := fun {j} h => by
    have e := nvZ_natCast j.natAbs
    rw [show ((j.natAbs : Nat) : Int) = j by omega] at e
    rw [e, Int.natCast_mul]
  have neg : ∀ {j : Int}, j < 0 → nvZ j * (B : Int) = -((nv j.natAbs * B : Nat) : Int) := fun {j} h => by
    have e := pos (j := -j) (by omega)
    rw [nvZ_neg, Int.natAbs_neg, Int.neg_mul] at e
    omega
  unfold nearZ
  constructor
  · intro j h
    by_cases hA : A < 0
    · rw [if_pos hA]
      by_cases hj : 0 ≤ j
      · omega
      · rw [neg (by omega)] at h
        have := le_near (n := A.natAbs) (r := j.natAbs) hB (by omega)
        omega
    · rw [if_neg hA]
      by_cases hj : 0 ≤ j
      · rw [pos hj] at h
        have := near_le (n := A.natAbs) (r := j.natAbs) hB (by omega)
        omega
      · have h1 : nvZ j < nvZ 0 := nvZ_lt (by omega)
        rw [nvZ_zero] at h1
        have := neg_pos_mul h1 hBi
        omega
  · intro j h
    by_cases hA : A < 0
    · rw [if_pos hA]
      by_cases hj : 0 ≤ j
      · have := Int.mul_nonneg (nvZ_nonneg hj) (Int.le_of_lt hBi)
        omega
      · rw [neg (by omega)] at h
        have := near_le (n := A.natAbs) (r := j.natAbs) hB (by omega)
        omega
    · rw [if_neg hA]
      by_cases hj : 0 ≤ j
      · rw [pos hj] at h
        have := le_near (n := A.natAbs) (r := j.natAbs) hB (by omega)
        omega
      · omega
/-- the word of A / B (times S), rounded -/
def wrd (A : Int) (B : Nat) : Nat := if A = 0 then 0 else double.word (decide (A < 0)) (min (near A.natAbs B) T)
/-- what a word tells of a place -/
def Out (w : Nat) (k : Int) : Prop := (∃ D : F, w = D.b ∧ D.k = k) ∨ (w = NEG0 ∧ k = 0) ∨ (w = INF ∧ (T : Int) ≤ k) ∨ (w = NINF ∧ k ≤ -(T : Int))
theorem near_zero {B : Nat} (hB : 0 < B) : near 0 B = 0 := near_exact hB (by rw [nv_zero, Nat.zero_mul])
theorem out_wrd (A : Int) {B : Nat} (hB : 0 < B) : Out (wrd A B) (nearZ A B) := by
  have hT := T_num
  unfold wrd nearZ
  by_cases h0 : A = 0
  · subst h0
    rw [if_pos rfl, if_neg (by omega), Int.natAbs_zero, near_zero hB]
    exact .inl ⟨F.zero, by decide, rfl⟩
  · rw [if_neg h0]
    by_cases hr : near A.natAbs B < T
    · rw [Nat.min_eq_left (by omega)]
      by_cases hA : A < 0
      · rw [decide_eq_true hA, if_pos hA]
        by_cases hz : near A.natAbs B = 0
        · refine .inr (.inl ⟨?_, ?_⟩)
          · rw [hz]; decide
          · rw [hz]; rfl
        · rw [word_F _ _ hr (fun _ => hz), if_pos rfl]
          exact .inl ⟨_, rfl, by rw [F.of_k (by omega)]⟩
      · rw [decide_eq_false hA, word_F _ _ hr (by simp), if_neg (by decide), if_neg hA]
        exact .inl ⟨_, rfl, by rw [F.of_k (by omega)]⟩
    · rw [Nat.min_eq_right (by omega)]
      by_cases hA : A < 0
      · refine .inr (.inr (.inr ⟨?_, ?_⟩))
        · rw [decide_eq_true hA]; decide
        · rw [if_pos hA]; omega
      · refine .inr (.inr (.inl ⟨?_, ?_⟩))
        · rw [decide_eq_false hA]; decide
        · rw [if_neg hA]; omega
theorem Nk.of {k A : Int} {B : Nat} (hB : 0 < B) (h : k = nearZ A B) : Nk k A B := h ▸ near_Nk hB
/-- the nearest place of a whole number is as near as any -/
theorem near_nst (A : Int) : Nst (nvZ (nearZ A 1)) A := by
  refine ⟨⟨_, rfl⟩, ?_⟩
  have key : ∀ n : Nat, ∀ r, ((nv (near n 1) : Int) - (n : Int)).natAbs ≤ ((nv r : Int) - (n : Int)).natAbs := by
    intro n r
    unfold near
    simp only [Nat.div_one, Nat.mul_one]
    have h1 := nv_fl_le n
    have h2 := lt_nv_fl n
    have h3 : nv r ≤ nv (fl n) ∨ nv (fl n + 1) ≤ nv r := by
      rcases Nat.lt_or_ge (fl n) r with k | k
      · exact .inr (nv_le k)
      · exact .inl (nv_le k)
    generalize nv r = x at *
    split
    · omega
    · split
      · omega
      · split <;> omega
  have k1 : ∀ n : Nat, ∀ c, Rep c → ((nv (near n 1) : Int) - (n : Int)).natAbs ≤ (c - (n : Int)).natAbs := by
    rintro n c ⟨j, rfl⟩
    by_cases hj : 0 ≤ j
    · have e := nvZ_natCast j.natAbs
      rw [show ((j.natAbs : Nat) : Int) = j by omega] at e
      rw [e]
      exact key n _
    · have h1 : nvZ j < nvZ 0 := nvZ_lt (by omega)
      rw [nvZ_zero] at h1
      have := key n 0
      rw [nv_zero] at this
      omega
  intro c hc
  unfold nearZ
  by_cases hA : A < 0
  · rw [if_pos hA, nvZ_neg, nvZ_natCast]
    have := k1 A.natAbs (-c) hc.neg
    omega
  · rw [if_neg hA, nvZ_natCast]
    have := k1 A.natAbs c hc
    omega
theorem rep_F (x : F) : Rep x.z := ⟨x.k, rfl⟩
theorem Nst.nk {D : F} {v : Int} (h : Nst D.z v) : Nk D.k v 1 := by
  constructor
  · intro j k
    exact nvZ_le_iff.1 (h.le ⟨j, rfl⟩ (by omega))
  · intro j k
    exact nvZ_le_iff.1 (h.ge ⟨j, rfl⟩ (by omega))
theorem sum_out (A : Int) : (∃ D : F, wrd A 1 = D.b ∧ Nst D.z A) ∨ (wrd A 1 = INF ∧ ∀ c : F, c.z < A) ∨ (wrd A 1 = NINF ∧ ∀ c : F, A < c.z) := by
  have hk := @near_Nk A 1 (by decide)
  rcases out_wrd A (B := 1) (by decide) with ⟨D, e, k⟩ | ⟨e, k⟩ | ⟨e, h⟩ | ⟨e, h⟩
  · refine .inl ⟨D, e, ?_⟩
    have := near_nst A
    rwa [← k] at this
  · have n := near_nst A
    rw [k, nvZ_zero] at n
    have A0 : A = 0 := by
      rcases Int.lt_trichotomy A 0 with c | c | c
      · have := n.neg.pos (by omega); omega
      · exact c
      · have := n.pos c; omega
    subst A0
    exact .inl ⟨F.zero, by decide, by have z0 : F.zero.z = 0 := (z_zero F.zero).2 rfl; rw [z0]; exact n⟩
  · refine .inr (.inl ⟨e, fun c => ?_⟩)
    apply Int.not_le.1
    intro k
    have := hk.up c.k (by have : nvZ c.k = c.z := rfl; omega)
    have := c.hk
    omega
  · refine .inr (.inr ⟨e, fun c => ?_⟩)
    apply Int.not_le.1
    intro k
    have := hk.dn c.k (by have : nvZ c.k = c.z := rfl; omega)
    have := c.hk
    omega
/-- the same of a place without an end -/
def sideK (k : Int) (pos neg up : Bool) : F × Int := if (T : Int) ≤ k then bif up then (F.zero, 10) else (F.max, 0) else if k ≤ -(T : Int) then bif up then (F.min, 0) else (F.zero, 10) else sideF (F.of k) pos neg up
theorem sideK_ok {k A : Int} {B : Nat} (hB : 0 < B) (h : Nk k A B) {pos neg up : Bool} (hp : -(T : Int) < k → k < T → (pos = true ↔ nvZ k * (B : Int) < A)) (hn : -(T : Int) < k → k < T → (neg = true ↔ A < nvZ k * (B : Int))) : sideK k pos neg up = rndR up A B := by
  unfold sideK
  by_cases c1 : (T : Int) ≤ k
  · rw [if_pos c1, over_ok hB (fun c => ?_)]
    apply Int.not_le.1
    intro l
    have := h.up c.k l
    have := c.hk
    omega
  · rw [if_neg c1]
    by_cases c2 : k ≤ -(T : Int)
    · rw [if_pos c2, under_ok hB (fun c => ?_)]
      apply Int.not_le.1
      intro l
      have := h.dn c.k l
      have := c.hk
      omega
    · rw [if_neg c2]
      have e : (F.of k).k = k := F.of_k (by omega)
      have ez : (F.of k).z = nvZ k := by unfold F.z; rw [e]
      exact side_ok hB (by rw [e]; exact h) (by rw [ez]; exact hp (by omega) (by omega)) (by rw [ez]; exact hn (by omega) (by omega))
theorem sum_fin {A : Int} {g : F} (h1 : A ≤ g.z) (h2 : -A ≤ g.z) : ∃ D : F, wrd A 1 = D.b ∧ Nst D.z A ∧ D.z ≤ g.z ∧ -D.z ≤ g.z := by
  rcases sum_out A with ⟨D, e, h⟩ | ⟨_, h⟩ | ⟨_, h⟩
  · exact ⟨D, e, h, h.le (rep_F g) h1, by have := h.ge (rep_F g).neg (by omega); omega⟩
  · have := h g; omega
  · have := h g.neg; rw [F.neg_z] at this; omega
/-! sums below 2^1000 -/
def G0 : F := F.dy 1 1000
def G1 : F := F.dy 1 1001
def G2 : F := F.dy 1 1002
def G3 : F := F.dy 1 1003
def G4 : F := F.dy 1 1004
def G5 : F := F.dy 1 1005
theorem G1_z : G1.z = 2 * G0.z := by decide +kernel
theorem G2_z : G2.z = 4 * G0.z := by decide +kernel
theorem G3_z : G3.z = 8 * G0.z := by decide +kernel
theorem G4_z : G4.z = 16 * G0.z := by decide +kernel
theorem G5_z : G5.z = 32 * G0.z := by decide +kernel
theorem G0_pos : 0 < G0.z := by decide +kernel
structure Two (a b s : F) (c a' p q d : F) : Prop where
  e1 : wrd (s.z - a.z) 1 = c.b
  e2 : wrd (s.z - c.z) 1 = a'.b
  e3 : wrd (a.z - a'.z) 1 = p.b
  e4 : wrd (b.z - c.z) 1 = q.b
  e5 : wrd (p.z + q.z) 1 = d.b
  pos : 0 < d.z ↔ s.z < a.z + b.z
  neg : d.z < 0 ↔ a.z + b.z < s.z
theorem two_near {a b s : F} (hs : Nst s.z (a.z + b.z)) (h1 : s.z < G0.z) (h2 : -s.z < G0.z) : ∃ c a' p q d : F, Two a b s c a' p q d := by
  have g0 := G0_pos; have g1 := G1_z; have g2 := G2_z; have g3 := G3_z; have g4 := G4_z; have g5 := G5_z
  have fin : ∃ c a' p q d : F, (wrd (s.z - a.z) 1 = c.b ∧ Nst c.z (s.z - a.z)) ∧ (wrd (s.z - c.z) 1 = a'.b ∧ Nst a'.z (s.z - c.z)) ∧ (wrd (a.z - a'.z) 1 = p.b ∧ Nst p.z (a.z - a'.z)) ∧ (wrd (b.z - c.z) 1 = q.b ∧ Nst q.z (b.z - c.z)) ∧ (wrd (p.z + q.z) 1 = d.b ∧ Nst d.z (p.z + q.z)) := by
    by_cases r : Rep (a.z + b.z)
    · have e := hs.exact r
      have ab : ∀ {x : F} {v : Int}, v = x.z → ∃ D : F, wrd v 1 = D.b ∧ Nst D.z v ∧ D.z = x.z := by
        rintro x v rfl
        obtain ⟨D, e, h, _⟩ := sum_fin (A := x.z) (g := x.abs) (by
          have := z_natAbs' x
          have e : x.abs.z = (nv x.k.natAbs : Int) := nvZ_natCast _
          omega) (by
          have := z_natAbs' x
          have e : x.abs.z = (nv x.k.natAbs : Int) := nvZ_natCast _
          omega)
        exact ⟨D, e, h, h.exact (rep_F x)⟩
      have z0 : F.zero.z = 0 := (z_zero F.zero).2 rfl
      obtain ⟨c, c1, c2, c3⟩ := ab (x := b) (v := s.z - a.z) (by omega)
      obtain ⟨a', a1, a2, a3⟩ := ab (x := a) (v := s.z - c.z) (by omega)
      obtain ⟨p, p1, p2, p3⟩ := ab (x := F.zero) (v := a.z - a'.z) (by omega)
      obtain ⟨q, q1, q2, q3⟩ := ab (x := F.zero) (v := b.z - c.z) (by omega)
      obtain ⟨d, d1, d2, d3⟩ := ab (x := F.zero) (v := p.z + q.z) (by omega)
      exact ⟨c, a', p, q, d, ⟨c1, c2⟩, ⟨a1, a2⟩, ⟨p1, p2⟩, ⟨q1, q2⟩, ⟨d1, d2⟩⟩
    · obtain ⟨b1, b2⟩ := sum_bd (rep_F a) (rep_F b) r
      have s1 : a.z + b.z ≤ G0.z := by
        apply Int.not_lt.1
        intro k
        have := hs.ge (rep_F G0) (by omega)
        omega
      have s2 : -(a.z + b.z) ≤ G0.z := by
        apply Int.not_lt.1
        intro k
        have := hs.le (rep_F G0).neg (by omega)
        omega
      obtain ⟨c, c1, c2, c3, c4⟩ := sum_fin (A := s.z - a.z) (g := G2) (by omega) (by omega)
      obtain ⟨a', a1, a2, a3, a4⟩ := sum_fin (A := s.z - c.z) (g := G3) (by omega) (by omega)
      obtain ⟨p, p1, p2, p3, p4⟩ := sum_fin (A := a.z - a'.z) (g := G4) (by omega) (by omega)
      obtain ⟨q, q1, q2, q3, q4⟩ := sum_fin (A := b.z - c.z) (g := G3) (by omega) (by omega)
      obtain ⟨d, d1, d2, _⟩ := sum_fin (A := p.z + q.z) (g := G5) (by omega) (by omega)
      exact ⟨c, a', p, q, d, ⟨c1, c2⟩, ⟨a1, a2⟩, ⟨p1, p2⟩, ⟨q1, q2⟩, ⟨d1, d2⟩⟩
  obtain ⟨c, a', p, q, d, ⟨c1, c2⟩, ⟨a1, a2⟩, ⟨p1, p2⟩, ⟨q1, q2⟩, ⟨d1, d2⟩⟩ := fin
  have := two_sum (rep_F a) (rep_F b) hs c2 a2 p2 q2 d2
  exact ⟨c, a', p, q, d, c1, a1, p1, q1, d1, this.1, this.2⟩
/-! sums of 2^1000 and more -/
theorem rep_pow {z : Int} (h : Rep z) (i : Nat) : Rep (z * ((2 ^ i : Nat) : Int)) := by
  obtain ⟨m, s, e, hm, _⟩ := rep_parts h
  rw [e, Int.mul_assoc, ← Int.natCast_mul, ← Nat.pow_add]
  exact rep_mk (by omega)
theorem rep_coarse {z : Int} (h : Rep z) {i : Nat} (k : 2 * P * 2 ^ i ≤ z.natAbs) : ∃ n : Int, z = n * ((2 ^ i : Nat) : Int) := by
  obtain ⟨m, s, e, hm, _⟩ := rep_parts h
  by_cases c : i ≤ s
  · rw [e]; exact pow_lift c
  · exfalso
    rw [e, mul_abs] at k
    have h1 : m.natAbs * 2 ^ s < 2 * P * 2 ^ s := Nat.mul_lt_mul_of_pos_right hm (Nat.two_pow_pos s)
    have h2 : 2 * P * 2 ^ s ≤ 2 * P * 2 ^ i := Nat.mul_le_mul_left _ (Nat.pow_le_pow_right (by decide) (by omega))
    omega
def K60 : F := F.dy 1 60
@[irreducible] def Q12 : Nat := 2 ^ 1200
theorem Q12_eq : Q12 = 2 ^ 1200 := by unfold Q12; rfl
theorem K60_z : 2 * K60.z < (Q12 : Int) := by decide +kernel
theorem Q12_z : 2 * ((2 * P * Q12 : Nat) : Int) ≤ G0.z := by decide +kernel
theorem K60_pos : 0 < K60.z := by decide +kernel
theorem far_small {a b s : F} (hs : Nst s.z (a.z + b.z)) (hb : G0.z ≤ s.z ∨ s.z ≤ -G0.z) (h1 : a.z < K60.z) (h2 : -a.z < K60.z) : (0 < a.z ↔ s.z < a.z + b.z) ∧ (a.z < 0 ↔ a.z + b.z < s.z) := by
  have g0 := G0_pos; have k0 := K60_pos; have k1 := K60_z; have k2 := Q12_z
  have n := hs.2 b.z (rep_F b)
  have kp : 0 < 2 * P * Q12 := Nat.mul_pos (by decide) (Q12_eq ▸ Nat.two_pow_pos 1200)
  have qp : Q12 ≤ 2 * P * Q12 := Nat.le_mul_of_pos_left _ (by decide)
  have c1 : 2 * P * 2 ^ 1200 ≤ s.z.natAbs := by rw [← Q12_eq]; omega
  have c2 : 2 * P * 2 ^ 1200 ≤ b.z.natAbs := by rw [← Q12_eq]; omega
  obtain ⟨u, eu⟩ := rep_coarse (rep_F s) c1
  obtain ⟨v, ev⟩ := rep_coarse (rep_F b) c2
  rw [← Q12_eq] at eu ev
  have ed : s.z - b.z = (u - v) * (Q12 : Int) := by rw [eu, ev, Int.sub_mul]
  have e := mul_abs (u - v) Q12
  rw [← ed] at e
  have z : (u - v).natAbs = 0 := by
    apply Nat.eq_zero_of_not_pos
    intro k
    have := Nat.mul_le_mul_right Q12 (show 1 ≤ (u - v).natAbs from k)
    omega
  rw [z, Nat.zero_mul] at e
  omega
@[irreducible] def Q60 : Nat := 2 ^ 60
theorem Q60_eq : Q60 = 2 ^ 60 := by unfold Q60; rfl
theorem far_scale {a b s x y t : F} (hs : Nst s.z (a.z + b.z)) (ha : a.z = x.z * (Q60 : Int)) (hb : b.z = y.z * (Q60 : Int)) (ht : s.z = t.z * (Q60 : Int)) : Nst t.z (x.z + y.z) := by
  refine ⟨rep_F t, fun c hc => ?_⟩
  have := hs.2 _ (rep_pow hc 60)
  rw [← Q60_eq, ha, hb, ht, ← Int.add_mul, ← Int.sub_mul, ← Int.sub_mul, mul_abs, mul_abs] at this
  exact Nat.le_of_mul_le_mul_right this (Q60_eq ▸ Nat.two_pow_pos 60)
end Bu
