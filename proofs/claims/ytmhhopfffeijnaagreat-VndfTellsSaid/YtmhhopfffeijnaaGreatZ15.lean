/- Straight lines of interval arithmetic: what they work out, row by row; their errors; what they enclose; parts of intervals. Straight lines: programs of interval arithmetic, row by row: what holds where there is no error, which errors there may be, what parts of intervals make of them. Numbers by parts of 2^32 between two others, plain. -/
import Derived.Test.YtmhhopfffeijnaaGreatZ07
import Derived.Test.YtmhhopfffeijnaaGreatZ14
namespace Bu
set_option linter.all false
open Rx Go

def RD (v : Rat) (p : F × Int) : Prop := (p.2 = 0 ∧ Dn p.1 v) ∨ (p.2 = 10 ∧ ∀ c : F, v < c.q)
def RU (v : Rat) (p : F × Int) : Prop := (p.2 = 0 ∧ Up p.1 v) ∨ (p.2 = 10 ∧ ∀ c : F, c.q < v)
theorem rndR_RD {A : Int} {B : Nat} {v : Rat} (hB : 0 < B) (hv : (A : Rat) / ((S : Rat) * (B : Rat)) = v) : RD v (rndR false A B) := by
  by_cases h : ∃ c : F, c.q ≤ v
  · obtain ⟨c, hc⟩ := h
    obtain ⟨r, e, d⟩ := rndR_dn hB hv c hc
    rw [e]; exact .inl ⟨rfl, d⟩
  · refine .inr ⟨?_, fun c => Rat.not_le.1 fun k => h ⟨c, k⟩⟩
    have hT := T_num
    have hk : ∀ x : F, x.k ≤ flI A B ↔ x.q ≤ (A : Rat) / ((S : Rat) * (B : Rat)) := fun x => by rw [le_flI hB, ← z_le_iff hB]; rfl
    have h1 : ¬ (F.of (-((T : Int) - 1))).k ≤ flI A B := fun k => h ⟨_, by rw [← hv]; exact (hk _).1 k⟩
    rw [F.of_k (by omega)] at h1
    show (outDn (flI A B)).2 = 10
    unfold outDn
    rw [if_pos (by omega)]
theorem rndR_RU {A : Int} {B : Nat} {v : Rat} (hB : 0 < B) (hv : (A : Rat) / ((S : Rat) * (B : Rat)) = v) : RU v (rndR true A B) := by
  by_cases h : ∃ c : F, v ≤ c.q
  · obtain ⟨c, hc⟩ := h
    obtain ⟨r, e, d⟩ := rndR_up hB hv c hc
    rw [e]; exact .inl ⟨rfl, d⟩
  · refine .inr ⟨?_, fun c => Rat.not_le.1 fun k => h ⟨c, k⟩⟩
    have hT := T_num
    have hk : ∀ x : F, ceI A B ≤ x.k ↔ (A : Rat) / ((S : Rat) * (B : Rat)) ≤ x.q := fun x => by rw [ceI_le hB, ← rat_le_iff hB]; rfl
    have h1 : ¬ ceI A B ≤ (F.of ((T : Int) - 1)).k := fun k => h ⟨_, by rw [← hv]; exact (hk _).1 k⟩
    rw [F.of_k (by omega)] at h1
    show (outUp (ceI A B)).2 = 10
    unfold outUp
    rw [if_pos (by omega)]
theorem dAdd_RD (a b : F) : RD (a.q + b.q) (dAdd false a b) := rndR_RD (by decide) (add_v a b)
theorem dAdd_RU (a b : F) : RU (a.q + b.q) (dAdd true a b) := rndR_RU (by decide) (add_v a b)
theorem dSub_RD (a b : F) : RD (a.q - b.q) (dSub false a b) := rndR_RD (by decide) (sub_v a b)
theorem dSub_RU (a b : F) : RU (a.q - b.q) (dSub true a b) := rndR_RU (by decide) (sub_v a b)
theorem dMul_RD (a b : F) : RD (a.q * b.q) (dMul false a b) := rndR_RD S_pos (mul_v a b)
theorem dMul_RU (a b : F) : RU (a.q * b.q) (dMul true a b) := rndR_RU S_pos (mul_v a b)
theorem pDiv_RD {a b : F} (hb : b.k ≠ 0) : RD (a.q / b.q) (pDiv false a b) := by
  unfold pDiv
  rw [if_neg hb]
  exact rndR_RD (by have := z_zero b; omega) (div_v a b hb)
theorem pDiv_RU {a b : F} (hb : b.k ≠ 0) : RU (a.q / b.q) (pDiv true a b) := by
  unfold pDiv
  rw [if_neg hb]
  exact rndR_RU (by have := z_zero b; omega) (div_v a b hb)
theorem RD.ok {v : Rat} {p : F × Int} (h : RD v p) (e : p.2 = 0) : Dn p.1 v := by
  rcases h with h | h
  · exact h.2
  · have := h.1; omega
theorem RU.ok {v : Rat} {p : F × Int} (h : RU v p) (e : p.2 = 0) : Up p.1 v := by
  rcases h with h | h
  · exact h.2
  · have := h.1; omega
theorem RD.has {v : Rat} {p : F × Int} (h : RD v p) {c : F} (hc : c.q ≤ v) : p.2 = 0 ∧ c.q ≤ p.1.q := by
  rcases h with h | h
  · exact ⟨h.1, h.2.top c hc⟩
  · exact absurd (h.2 c) (Rat.not_lt.2 hc)
theorem RU.has {v : Rat} {p : F × Int} (h : RU v p) {c : F} (hc : v ≤ c.q) : p.2 = 0 ∧ p.1.q ≤ c.q := by
  rcases h with h | h
  · exact ⟨h.1, h.2.bot c hc⟩
  · exact absurd (h.2 c) (Rat.not_lt.2 hc)
/-- an error that may be: beyond all numbers, or by 0 -/
def Er (e : Int) : Prop := e = 0 ∨ e = 10 ∨ e = 11
theorem RD.er {v : Rat} {p : F × Int} (h : RD v p) : Er p.2 := by rcases h with h | h; exact .inl h.1; exact .inr (.inl h.1)
theorem RU.er {v : Rat} {p : F × Int} (h : RU v p) : Er p.2 := by rcases h with h | h; exact .inl h.1; exact .inr (.inl h.1)
theorem ends_0 {p q : F × Int} (h : (endsI p q).2 = 0) : p.2 = 0 ∧ q.2 = 0 ∧ endsI p q = (⟨p.1, q.1⟩, 0) := by
  unfold endsI at *
  by_cases k : p.2 = 0
  · rw [k] at h ⊢
    have h' : q.2 = 0 := h
    exact ⟨rfl, h', by rw [h']; rfl⟩
  · have e : (!(p.2 == 0)) = true := by simp [k]
    rw [e] at h
    exact absurd h k
theorem ask_0 {e : Int} {g : Bool} {r : I × Int} (h : (askI e g r).2 = 0) : e = 0 ∧ g = true ∧ r.2 = 0 ∧ askI e g r = (r.1, 0) := by
  unfold askI at *
  by_cases k : e = 0
  · subst k
    cases g
    · exact absurd (show (20 : Int) = 0 from h) (by decide)
    · by_cases l : r.2 = 0
      · rw [l]; exact ⟨rfl, rfl, rfl, rfl⟩
      · have e : (!(r.2 == 0)) = true := by simp [l]
        rw [e] at h
        exact absurd h l
  · have f : (!(e == 0)) = true := by simp [k]
    rw [f] at h
    exact absurd h k
theorem ask_kept {e : Int} (he : e ≠ 0) (g : Bool) (r : I × Int) : askI e g r = (I.zero, e) := by
  unfold askI
  have f : (!(e == 0)) = true := by simp [he]
  rw [f]; rfl
theorem then_0 {r : I × Int} {g : I → I × Int} (h : (thenI r g).2 = 0) : r.2 = 0 ∧ (g r.1).2 = 0 ∧ thenI r g = g r.1 := by
  unfold thenI at *
  by_cases k : r.2 = 0
  · rw [k] at h ⊢
    exact ⟨rfl, h, rfl⟩
  · have e : (!(r.2 == 0)) = true := by simp [k]
    rw [e] at h
    exact absurd h k
/-- four values, as they are to be -/
structure Four (f : Bool → F → F → F × Int) (a b : I) (p q s t : Rat) : Prop where
  d1 : RD p (f false a.lo b.lo)
  u1 : RU p (f true a.lo b.lo)
  d2 : RD q (f false a.lo b.hi)
  u2 : RU q (f true a.lo b.hi)
  d3 : RD s (f false a.hi b.lo)
  u3 : RU s (f true a.hi b.lo)
  d4 : RD t (f false a.hi b.hi)
  u4 : RU t (f true a.hi b.hi)
theorem all_0 {f : Bool → F → F → F × Int} {a b : I} {p q s t : Rat} (k : Four f a b p q s t) (h : (allI f a b).2 = 0) : AllR (allI f a b).1 p q s t := by
  unfold allI at h
  obtain ⟨h1, g1, _⟩ := then_0 h
  obtain ⟨h2, g2, _⟩ := then_0 g1
  obtain ⟨h3, g3, _⟩ := then_0 g2
  obtain ⟨h4, _, _⟩ := then_0 g3
  have ex : ∀ {x y : F} {v : Rat}, (oneI f x y).2 = 0 → RD v (f false x y) → RU v (f true x y) → (∃ r, f false x y = (r, 0) ∧ Dn r v) ∧ ∃ r, f true x y = (r, 0) ∧ Up r v := by
    intro x y v h d u
    obtain ⟨e1, e2, _⟩ := ends_0 h
    exact ⟨⟨_, by rw [← e1], d.ok e1⟩, ⟨_, by rw [← e2], u.ok e2⟩⟩
  obtain ⟨r, e, hr⟩ := allI_ok (ex h1 k.d1 k.u1) (ex h2 k.d2 k.u2) (ex h3 k.d3 k.u3) (ex h4 k.d4 k.u4)
  rw [e]; exact hr
/-- where a number is below all four, and one above them, there is no error -/
theorem all_has {f : Bool → F → F → F × Int} {a b : I} {p q s t : Rat} (k : Four f a b p q s t) {c d : F} (c1 : c.q ≤ p) (c2 : c.q ≤ q) (c3 : c.q ≤ s) (c4 : c.q ≤ t) (d1 : p ≤ d.q) (d2 : q ≤ d.q) (d3 : s ≤ d.q) (d4 : t ≤ d.q) :
    ∃ r, allI f a b = (r, 0) ∧ AllR r p q s t ∧ c.q ≤ r.lo.q ∧ r.hi.q ≤ d.q := by
  have ex : ∀ {x y : F} {v : Rat}, RD v (f false x y) → RU v (f true x y) → c.q ≤ v → v ≤ d.q → (∃ r, f false x y = (r, 0) ∧ Dn r v) ∧ ∃ r, f true x y = (r, 0) ∧ Up r v := by
    intro x y v h u hc hd
    have e1 := (h.has hc).1
    have e2 := (u.has hd).1
    exact ⟨⟨_, by rw [← e1], h.ok e1⟩, ⟨_, by rw [← e2], u.ok e2⟩⟩
  obtain ⟨r, e, hr⟩ := allI_ok (ex k.d1 k.u1 c1 d1) (ex k.d2 k.u2 c2 d2) (ex k.d3 k.u3 c3 d3) (ex k.d4 k.u4 c4 d4)
  exact ⟨r, e, hr, hr.top c1 c2 c3 c4, hr.bot d1 d2 d3 d4⟩
theorem mul_four (a b : I) : Four dMul a b (a.lo.q * b.lo.q) (a.lo.q * b.hi.q) (a.hi.q * b.lo.q) (a.hi.q * b.hi.q) :=
  ⟨dMul_RD _ _, dMul_RU _ _, dMul_RD _ _, dMul_RU _ _, dMul_RD _ _, dMul_RU _ _, dMul_RD _ _, dMul_RU _ _⟩
/-- without 0 -/
theorem no_zero {b : I} (hr : rt b = true) (h : hasB b F.zero = false) : 0 < b.lo.q ∨ b.hi.q < 0 := by
  unfold hasB at h
  rw [hr, Bool.true_and, Bool.and_eq_false_iff, decide_eq_false_iff_not, decide_eq_false_iff_not] at h
  rcases h with h | h
  · left; rw [← q_zero]; exact q_lt.2 (by omega)
  · right; rw [← q_zero]; exact q_lt.2 (by omega)
theorem rt_le {a : I} (h : rt a = true) : a.lo.q ≤ a.hi.q := q_le.2 (of_decide_eq_true h)
theorem k_ne {x : F} (h : x.q ≠ 0) : x.k ≠ 0 := fun k => h (by rw [F.ext' (b := F.zero) k, q_zero])
theorem div_four {a b : I} (hr : rt b = true) (h : hasB b F.zero = false) : Four pDiv a b (a.lo.q / b.lo.q) (a.lo.q / b.hi.q) (a.hi.q / b.lo.q) (a.hi.q / b.hi.q) := by
  have n := no_zero hr h
  have l := rt_le hr
  have h1 : b.lo.k ≠ 0 := k_ne (by rcases n with n | n <;> grind)
  have h2 : b.hi.k ≠ 0 := k_ne (by rcases n with n | n <;> grind)
  exact ⟨pDiv_RD h1, pDiv_RU h1, pDiv_RD h2, pDiv_RU h2, pDiv_RD h1, pDiv_RU h1, pDiv_RD h2, pDiv_RU h2⟩
theorem both {a b : Bool} (h : (a && b) = true) : a = true ∧ b = true := by rwa [Bool.and_eq_true] at h
theorem add_0 {e : Int} {a b : I} (h : (cAdd dAdd e a b).2 = 0) : e = 0 ∧ rt a = true ∧ rt b = true ∧ (cAdd dAdd e a b) = ((cAdd dAdd e a b).1, 0) ∧ Dn (cAdd dAdd e a b).1.lo (a.lo.q + b.lo.q) ∧ Up (cAdd dAdd e a b).1.hi (a.hi.q + b.hi.q) := by
  unfold cAdd at h ⊢
  obtain ⟨h0, h1, h2, h3⟩ := ask_0 h
  obtain ⟨g1, g2, g3⟩ := ends_0 h2
  rw [h3, g3]
  exact ⟨h0, (both h1).1, (both h1).2, rfl, (dAdd_RD _ _).ok g1, (dAdd_RU _ _).ok g2⟩
theorem sub_0 {e : Int} {a b : I} (h : (cSub dSub e a b).2 = 0) : e = 0 ∧ rt a = true ∧ rt b = true ∧ (cSub dSub e a b) = ((cSub dSub e a b).1, 0) ∧ Dn (cSub dSub e a b).1.lo (a.lo.q - b.hi.q) ∧ Up (cSub dSub e a b).1.hi (a.hi.q - b.lo.q) := by
  unfold cSub at h ⊢
  obtain ⟨h0, h1, h2, h3⟩ := ask_0 h
  obtain ⟨g1, g2, g3⟩ := ends_0 h2
  rw [h3, g3]
  exact ⟨h0, (both h1).1, (both h1).2, rfl, (dSub_RD _ _).ok g1, (dSub_RU _ _).ok g2⟩
theorem mul_0 {e : Int} {a b : I} (h : (cMul dMul e a b).2 = 0) : e = 0 ∧ rt a = true ∧ rt b = true ∧ (cMul dMul e a b) = ((cMul dMul e a b).1, 0) ∧ AllR (cMul dMul e a b).1 (a.lo.q * b.lo.q) (a.lo.q * b.hi.q) (a.hi.q * b.lo.q) (a.hi.q * b.hi.q) := by
  unfold cMul at h ⊢
  obtain ⟨h0, h1, h2, h3⟩ := ask_0 h
  rw [h3]
  exact ⟨h0, (both h1).1, (both h1).2, rfl, all_0 (mul_four a b) h2⟩
theorem div_0 {e : Int} {a b : I} (h : (cDiv pDiv e a b).2 = 0) : e = 0 ∧ rt a = true ∧ rt b = true ∧ hasB b F.zero = false ∧ (cDiv pDiv e a b) = ((cDiv pDiv e a b).1, 0) ∧ AllR (cDiv pDiv e a b).1 (a.lo.q / b.lo.q) (a.lo.q / b.hi.q) (a.hi.q / b.lo.q) (a.hi.q / b.hi.q) := by
  unfold cDiv at h ⊢
  obtain ⟨h0, h1, h2, h3⟩ := ask_0 h
  rw [h3]
  cases k : hasB b F.zero
  · rw [k] at h2
    exact ⟨h0, (both h1).1, (both h1).2, rfl, rfl, all_0 (div_four (both h1).2 k) h2⟩
  · rw [k] at h2
    exact absurd (show (11 : Int) = 0 from h2) (by decide)
theorem sqr_0 {e : Int} {a : I} (h : (cSqr dMul e a).2 = 0) : e = 0 ∧ rt a = true ∧ (cSqr dMul e a) = ((cSqr dMul e a).1, 0) ∧ Dn (cSqr dMul e a).1.lo ((bareI a).lo.q * (bareI a).lo.q) ∧ Up (cSqr dMul e a).1.hi ((bareI a).hi.q * (bareI a).hi.q) := by
  unfold cSqr at h ⊢
  obtain ⟨h0, h1, h2, h3⟩ := ask_0 h
  obtain ⟨g1, g2, g3⟩ := ends_0 h2
  rw [h3, g3]
  exact ⟨h0, h1, rfl, (dMul_RD _ _).ok g1, (dMul_RU _ _).ok g2⟩
theorem qSqrt_nn {up : Bool} {a : F} (h : (qSqrt up a).2 = 0) : 0 ≤ a.q := by
  apply Rat.not_lt.1
  intro g
  have hk : a.k < 0 := by have := q_lt.1 (show a.q < F.zero.q by rw [q_zero]; exact g); exact this
  unfold qSqrt at h
  rw [if_pos hk] at h
  exact absurd h (by decide)
theorem sqrt_0 {e : Int} {a : I} (h : (cSqrt qSqrt e a).2 = 0) : e = 0 ∧ rt a = true ∧ 0 ≤ a.lo.q ∧ (cSqrt qSqrt e a) = ((cSqrt qSqrt e a).1, 0) ∧ SqD (cSqrt qSqrt e a).1.lo a.lo ∧ SqU (cSqrt qSqrt e a).1.hi a.hi := by
  unfold cSqrt at h ⊢
  obtain ⟨h0, h1, h2, h3⟩ := ask_0 h
  obtain ⟨g1, g2, g3⟩ := ends_0 h2
  have l := qSqrt_nn g1
  have r := rt_le h1
  obtain ⟨x, e1, s1⟩ := (qSqrt_gen l).1
  obtain ⟨y, e2, s2⟩ := (qSqrt_gen (a := a.hi) (by grind)).2
  rw [h3, g3, e1, e2]
  exact ⟨h0, h1, l, rfl, s1, s2⟩
theorem neg_0 {e : Int} {a : I} (h : (cNeg e a).2 = 0) : e = 0 ∧ rt a = true ∧ cNeg e a = (turnI a, 0) := by
  unfold cNeg at h ⊢
  obtain ⟨h0, h1, h2, h3⟩ := ask_0 h
  exact ⟨h0, h1, h3⟩
theorem max_0 {e : Int} {a b : I} (h : (cMax e a b).2 = 0) : e = 0 ∧ rt a = true ∧ rt b = true ∧ cMax e a b = (maxI a b, 0) := by
  unfold cMax at h ⊢
  obtain ⟨h0, h1, h2, h3⟩ := ask_0 h
  exact ⟨h0, (both h1).1, (both h1).2, h3⟩
theorem num_0 {e : Int} {x : F} (h : (cNum e x).2 = 0) : e = 0 ∧ cNum e x = (⟨x, x⟩, 0) := by
  unfold cNum at h ⊢
  obtain ⟨h0, h1, h2, h3⟩ := ask_0 h
  exact ⟨h0, h3⟩
theorem corner {a0 a1 c0 c1 x y m : Rat} (h1 : m ≤ a0 * c0) (h2 : m ≤ a0 * c1) (h3 : m ≤ a1 * c0) (h4 : m ≤ a1 * c1) (x0 : a0 ≤ x) (x1 : x ≤ a1) (y0 : c0 ≤ y) (y1 : y ≤ c1) : m ≤ x * y := by
  have k1 : m ≤ a0 * y := lin_ge h1 h2 y0 y1
  have k2 : m ≤ a1 * y := lin_ge h3 h4 y0 y1
  have := lin_ge (c := y) (b0 := a0) (b1 := a1) (m := m) (y := x) (by grind) (by grind) x0 x1
  grind
theorem corner' {a0 a1 c0 c1 x y m : Rat} (h1 : a0 * c0 ≤ m) (h2 : a0 * c1 ≤ m) (h3 : a1 * c0 ≤ m) (h4 : a1 * c1 ≤ m) (x0 : a0 ≤ x) (x1 : x ≤ a1) (y0 : c0 ≤ y) (y1 : y ≤ c1) : x * y ≤ m := by
  have k1 : a0 * y ≤ m := lin_le h1 h2 y0 y1
  have k2 : a1 * y ≤ m := lin_le h3 h4 y0 y1
  have := lin_le (c := y) (b0 := a0) (b1 := a1) (m := m) (y := x) (by grind) (by grind) x0 x1
  grind
theorem inv_le {x y : Rat} (h : 0 < x ∧ x ≤ y ∨ x ≤ y ∧ y < 0) : y⁻¹ ≤ x⁻¹ := by
  have hx : x ≠ 0 := by rcases h with h | h <;> grind
  have hy : y ≠ 0 := by rcases h with h | h <;> grind
  have e1 : x * x⁻¹ = 1 := Rat.mul_inv_cancel x hx
  have e2 : y * y⁻¹ = 1 := Rat.mul_inv_cancel y hy
  rcases h with h | h
  · have p1 := Rat.inv_pos.2 h.1
    have p2 := Rat.inv_pos.2 (show 0 < y by grind)
    have := Rat.mul_nonneg (Rat.mul_nonneg (show 0 ≤ y - x by grind) (Rat.le_of_lt p1)) (Rat.le_of_lt p2)
    generalize x⁻¹ = u at *
    generalize y⁻¹ = v at *
    have e3 : (y - x) * u * v = u - v := by grind
    grind
  · have p1 : x⁻¹ < 0 := by
      apply Rat.not_le.1
      intro g
      have := Rat.mul_nonneg g (show 0 ≤ -x by grind)
      generalize x⁻¹ = u at *
      grind
    have p2 : y⁻¹ < 0 := by
      apply Rat.not_le.1
      intro g
      have := Rat.mul_nonneg g (show 0 ≤ -y by grind)
      generalize y⁻¹ = u at *
      grind
    have := Rat.mul_nonneg (Rat.mul_nonneg (show 0 ≤ y - x by grind) (show 0 ≤ -x⁻¹ by grind)) (show 0 ≤ -y⁻¹ by grind)
    generalize x⁻¹ = u at *
    generalize y⁻¹ = v at *
    have e3 : (y - x) * -u * -v = u - v := by grind
    grind
theorem div_in {r a b : I} {x y : Rat} (hr : rt b = true) (hz : hasB b F.zero = false) (h : AllR r (a.lo.q / b.lo.q) (a.lo.q / b.hi.q) (a.hi.q / b.lo.q) (a.hi.q / b.hi.q)) (hx : Mem a x) (hy : Mem b y) : Mem r (x / y) := by
  have n := no_zero hr hz
  have y1 := hy.lo; have y2 := hy.hi
  obtain ⟨⟨l1, l2, l3, l4⟩, ⟨u1, u2, u3, u4⟩, _, _⟩ := h
  rw [Rat.div_def]
  simp only [Rat.div_def] at l1 l2 l3 l4 u1 u2 u3 u4
  have i1 : b.hi.q⁻¹ ≤ y⁻¹ := inv_le (by rcases n with n | n; exact .inl ⟨by grind, y2⟩; exact .inr ⟨y2, n⟩)
  have i2 : y⁻¹ ≤ b.lo.q⁻¹ := inv_le (by rcases n with n | n; exact .inl ⟨n, y1⟩; exact .inr ⟨y1, by grind⟩)
  exact ⟨corner l2 l1 l4 l3 hx.lo hx.hi i1 i2, corner' u2 u1 u4 u3 hx.lo hx.hi i1 i2⟩
theorem bare_gen {a : I} (hr : rt a = true) : 0 ≤ (bareI a).lo.q ∧ (bareI a).lo.q ≤ (bareI a).hi.q ∧ ∀ v, Mem a v → (((bareI a).lo.q ≤ v ∧ v ≤ (bareI a).hi.q) ∨ ((bareI a).lo.q ≤ -v ∧ -v ≤ (bareI a).hi.q)) := by
  have x3 := rt_le hr
  have hz : ∀ x : F, 0 ≤ x.k ↔ 0 ≤ x.q := fun x => by rw [← q_zero, q_le]; rfl
  unfold bareI
  cases h1 : decide (0 ≤ a.lo.k)
  · have g1 := of_decide_eq_false h1
    rw [hz] at g1
    rw [cond_false]
    cases h2 : decide (a.hi.k ≤ 0)
    · have g2 := of_decide_eq_false h2
      have g3 : ¬ a.hi.q ≤ 0 := by rw [← q_zero, q_le]; exact g2
      rw [cond_false]
      simp only
      have m1 := mxF_q a.hi a.lo.neg
      rw [q_neg] at m1
      rw [q_zero]
      refine ⟨Rat.le_refl, by grind, fun v hv => ?_⟩
      have v1 := hv.lo; have v2 := hv.hi
      rcases (Rat.le_total : 0 ≤ v ∨ v ≤ 0) with h | h
      · exact .inl ⟨h, by grind⟩
      · exact .inr ⟨by grind, by grind⟩
    · have g2 := of_decide_eq_true h2
      have g3 : a.hi.q ≤ 0 := by rw [← q_zero, q_le]; exact g2
      rw [cond_true]
      simp only [turnI, q_neg]
      exact ⟨by grind, by grind, fun v hv => .inr ⟨by have := hv.hi; grind, by have := hv.lo; grind⟩⟩
  · have g1 := of_decide_eq_true h1
    rw [hz] at g1
    rw [cond_true]
    exact ⟨g1, x3, fun v hv => .inl ⟨hv.lo, hv.hi⟩⟩
theorem bare_ends {a : I} (hr : rt a = true) : (Mem a (bareI a).lo.q ∨ Mem a (-(bareI a).lo.q)) ∧ (Mem a (bareI a).hi.q ∨ Mem a (-(bareI a).hi.q)) := by
  have x3 := rt_le hr
  have hz : ∀ x : F, 0 ≤ x.k ↔ 0 ≤ x.q := fun x => by rw [← q_zero, q_le]; rfl
  unfold bareI
  cases h1 : decide (0 ≤ a.lo.k)
  · have g1 := of_decide_eq_false h1
    rw [hz] at g1
    rw [cond_false]
    cases h2 : decide (a.hi.k ≤ 0)
    · have g2 := of_decide_eq_false h2
      have g3 : ¬ a.hi.q ≤ 0 := by rw [← q_zero, q_le]; exact g2
      rw [cond_false]
      simp only
      rw [q_zero]
      refine ⟨.inl ⟨by grind, by grind⟩, ?_⟩
      rcases mxF_or a.hi a.lo.neg with h | h
      · rw [h]; exact .inl ⟨x3, Rat.le_refl⟩
      · rw [h, q_neg]; exact .inr ⟨by grind, by grind⟩
    · rw [cond_true]
      simp only [turnI, q_neg]
      exact ⟨.inr ⟨by grind, by grind⟩, .inr ⟨by grind, by grind⟩⟩
  · rw [cond_true]
    exact ⟨.inl ⟨Rat.le_refl, x3⟩, .inl ⟨x3, Rat.le_refl⟩⟩
theorem sqr_in' {r a : I} {v : Rat} (ha : rt a = true) (h1 : Dn r.lo ((bareI a).lo.q * (bareI a).lo.q)) (h2 : Up r.hi ((bareI a).hi.q * (bareI a).hi.q)) (hv : Mem a v) : Mem r (v * v) := by
  obtain ⟨b1, b2, b3⟩ := bare_gen ha
  have l := h1.le; have u := h2.ge
  have key : ∀ {x w y : Rat}, 0 ≤ x → x ≤ w → w ≤ y → x * x ≤ w * w ∧ w * w ≤ y * y := by
    intro x w y h1 h2 h3
    have a1 := Rat.mul_nonneg h1 (show 0 ≤ w - x by grind)
    have a2 := Rat.mul_nonneg (show 0 ≤ w by grind) (show 0 ≤ w - x by grind)
    have a3 := Rat.mul_nonneg (show 0 ≤ w by grind) (show 0 ≤ y - w by grind)
    have a4 := Rat.mul_nonneg (show 0 ≤ y by grind) (show 0 ≤ y - w by grind)
    constructor <;> grind
  rcases b3 v hv with ⟨c1, c2⟩ | ⟨c1, c2⟩
  · have := key b1 c1 c2; exact ⟨by grind, by grind⟩
  · have := key b1 c1 c2; exact ⟨by grind, by grind⟩
end Bu
namespace Bu
set_option linter.all false
open Rx Go

structure Kk where
  add : Int → I → I → I × Int
  sub : Int → I → I → I × Int
  mul : Int → I → I → I × Int
  div : Int → I → I → I × Int
  max : Int → I → I → I × Int
  sqr : Int → I → I × Int
  sqrt : Int → I → I × Int
  neg : Int → I → I × Int
  num : Int → F → I × Int
def KkR : Kk := ⟨KTR.add, KTR.sub, KTR.mul, KTR.div, cMax, KTR.sqr, cSqrt qSqrt, KTR.neg, KTR.num⟩
inductive Op where
  | add (i j : Nat)
  | sub (i j : Nat)
  | mul (i j : Nat)
  | div (i j : Nat)
  | max (i j : Nat)
  | sqr (i : Nat)
  | sqrt (i : Nat)
  | neg (i : Nat)
  | num (x : F)
  | lit (a : I)
  | fn (f : I → I) (i : Nat)
  | fn2 (f : I → I → I) (i j : Nat)
  | kept (l h : F) (i : Nat)
  | wi (i : Nat)
  | hid (i : Nat)
def hidI (a : I) : I := ⟨mxF a.lo (toF 0), mxF a.hi (toF 0)⟩
def gt (v : List I) (i : Nat) : I := v.getD i I.zero
def stepK (K : Kk) (o : Op) (v : List I) (e : Int) : I × Int :=
  match o with
  | .add i j => K.add e (gt v i) (gt v j)
  | .sub i j => K.sub e (gt v i) (gt v j)
  | .mul i j => K.mul e (gt v i) (gt v j)
  | .div i j => K.div e (gt v i) (gt v j)
  | .max i j => K.max e (gt v i) (gt v j)
  | .sqr i => K.sqr e (gt v i)
  | .sqrt i => K.sqrt e (gt v i)
  | .neg i => K.neg e (gt v i)
  | .num x => K.num e x
  | .lit a => (a, e)
  | .fn f i => (f (gt v i), e)
  | .fn2 f i j => (f (gt v i) (gt v j), e)
  | .kept l h i => (keptI (gt v i) l h, e)
  | .wi i => (withI (gt v i), e)
  | .hid i => (hidI (gt v i), e)
def evalK (K : Kk) : List Op → List I → Int → List I × Int
  | [], v, e => (v, e)
  | o :: l, v, e => evalK K l ((stepK K o v e).1 :: v) (stepK K o v e).2
/-- what a row tells -/
def Fact (o : Op) (v : List I) (r : I) : Prop :=
  match o with
  | .add i j => Dn r.lo ((gt v i).lo.q + (gt v j).lo.q) ∧ Up r.hi ((gt v i).hi.q + (gt v j).hi.q)
  | .sub i j => Dn r.lo ((gt v i).lo.q - (gt v j).hi.q) ∧ Up r.hi ((gt v i).hi.q - (gt v j).lo.q)
  | .mul i j => AllR r ((gt v i).lo.q * (gt v j).lo.q) ((gt v i).lo.q * (gt v j).hi.q) ((gt v i).hi.q * (gt v j).lo.q) ((gt v i).hi.q * (gt v j).hi.q)
  | .div i j => hasB (gt v j) F.zero = false ∧ AllR r ((gt v i).lo.q / (gt v j).lo.q) ((gt v i).lo.q / (gt v j).hi.q) ((gt v i).hi.q / (gt v j).lo.q) ((gt v i).hi.q / (gt v j).hi.q)
  | .max i j => r = maxI (gt v i) (gt v j)
  | .sqr i => Dn r.lo ((bareI (gt v i)).lo.q * (bareI (gt v i)).lo.q) ∧ Up r.hi ((bareI (gt v i)).hi.q * (bareI (gt v i)).hi.q)
  | .sqrt i => 0 ≤ (gt v i).lo.q ∧ SqD r.lo (gt v i).lo ∧ SqU r.hi (gt v i).hi
  | .neg i => r = turnI (gt v i)
  | .num x => r = ⟨x, x⟩
  | .lit a => r = a
  | .fn f i => r = f (gt v i)
  | .fn2 f i j => r = f (gt v i) (gt v j)
  | .kept l h i => r = keptI (gt v i) l h
  | .wi i => r = withI (gt v i)
  | .hid i => r = hidI (gt v i)
/-- a row's arguments are intervals -/
def ArgsRt (o : Op) (v : List I) : Prop :=
  match o with
  | .add i j | .sub i j | .mul i j | .div i j | .max i j => rt (gt v i) = true ∧ rt (gt v j) = true
  | .sqr i | .sqrt i | .neg i => rt (gt v i) = true
  | _ => True
theorem step_fact {o : Op} {v : List I} {e : Int} (h : (stepK KkR o v e).2 = 0) : e = 0 ∧ ArgsRt o v ∧ Fact o v (stepK KkR o v e).1 := by
  cases o with
  | add i j => obtain ⟨a, b, c, _, d⟩ := add_0 h; exact ⟨a, ⟨b, c⟩, d⟩
  | sub i j => obtain ⟨a, b, c, _, d⟩ := sub_0 h; exact ⟨a, ⟨b, c⟩, d⟩
  | mul i j => obtain ⟨a, b, c, _, d⟩ := mul_0 h; exact ⟨a, ⟨b, c⟩, d⟩
  | div i j => obtain ⟨a, b, c, d, _, f⟩ := div_0 h; exact ⟨a, ⟨b, c⟩, d, f⟩
  | max i j => obtain ⟨a, b, c, d⟩ := max_0 h; exact ⟨a, ⟨b, c⟩, congrArg Prod.fst d⟩
  | sqr i => obtain ⟨a, b, _, d⟩ := sqr_0 h; exact ⟨a, b, d⟩
  | sqrt i => obtain ⟨a, b, c, _, d⟩ := sqrt_0 h; exact ⟨a, b, c, d⟩
  | neg i => obtain ⟨a, b, d⟩ := neg_0 h; exact ⟨a, b, congrArg Prod.fst d⟩
  | num x => obtain ⟨a, d⟩ := num_0 h; exact ⟨a, trivial, congrArg Prod.fst d⟩
  | lit a => exact ⟨h, trivial, rfl⟩
  | fn f i => exact ⟨h, trivial, rfl⟩
  | fn2 f i j => exact ⟨h, trivial, rfl⟩
  | kept l u i => exact ⟨h, trivial, rfl⟩
  | wi i => exact ⟨h, trivial, rfl⟩
  | hid i => exact ⟨h, trivial, rfl⟩
theorem step_kept {o : Op} {v : List I} {e : Int} (he : e ≠ 0) : (stepK KkR o v e).2 = e := by
  cases o with
  | add i j => exact congrArg Prod.snd (ask_kept he _ _)
  | sub i j => exact congrArg Prod.snd (ask_kept he _ _)
  | mul i j => exact congrArg Prod.snd (ask_kept he _ _)
  | div i j => exact congrArg Prod.snd (ask_kept he _ _)
  | max i j => exact congrArg Prod.snd (ask_kept he _ _)
  | sqr i => exact congrArg Prod.snd (ask_kept he _ _)
  | sqrt i => exact congrArg Prod.snd (ask_kept he _ _)
  | neg i => exact congrArg Prod.snd (ask_kept he _ _)
  | num x => exact congrArg Prod.snd (ask_kept he _ _)
  | lit a => rfl
  | fn f i => rfl
  | fn2 f i j => rfl
  | kept l u i => rfl
  | wi i => rfl
  | hid i => rfl
theorem eval_kept : ∀ {l : List Op} {v : List I} {e : Int}, e ≠ 0 → (evalK KkR l v e).2 = e
  | [], _, _, _ => rfl
  | o :: l, v, e, he => by
    show (evalK KkR l ((stepK KkR o v e).1 :: v) (stepK KkR o v e).2).2 = e
    rw [step_kept he]; exact eval_kept he
/-- all rows tell what they do -/
def Chain : List Op → List I → List I → Prop
  | [], v, u => u = v
  | o :: l, v, u => ∃ r, Fact o v r ∧ Chain l (r :: v) u
theorem eval_chain : ∀ {l : List Op} {v : List I} {e : Int}, (evalK KkR l v e).2 = 0 → e = 0 ∧ Chain l v (evalK KkR l v e).1
  | [], _, _, h => ⟨h, rfl⟩
  | o :: l, v, e, h => by
    obtain ⟨h1, h2⟩ := eval_chain (l := l) h
    obtain ⟨g1, _, g2⟩ := step_fact h1
    exact ⟨g1, _, g2, h2⟩
theorem eval_cons {K : Kk} {o : Op} {l : List Op} {v : List I} {r : I} {e e' : Int} (h : stepK K o v e = (r, e')) : evalK K (o :: l) v e = evalK K l (r :: v) e' := by
  show evalK K l ((stepK K o v e).1 :: v) (stepK K o v e).2 = _
  rw [h]
theorem dn_up {l h : F} {v w : Rat} (a : Dn l v) (b : Up h w) (c : v ≤ w) : rt ⟨l, h⟩ = true := rt_q (by have := a.le; have := b.ge; show l.q ≤ h.q; grind)
theorem AllR.rt {r : I} {p q s t : Rat} (h : AllR r p q s t) : rt r = true := rt_q (Rat.le_trans h.lo.1 h.hi.1)
theorem maxI_rt {a b : I} (ha : rt a = true) (hb : rt b = true) : rt (maxI a b) = true := by
  have h1 := of_decide_eq_true ha; have h2 := of_decide_eq_true hb
  refine decide_eq_true ?_
  show (mxF a.lo b.lo).k ≤ (mxF a.hi b.hi).k
  rw [mxF_k, mxF_k]; omega
theorem turnI_rt {a : I} (ha : rt a = true) : rt (turnI a) = true := by
  have h1 := of_decide_eq_true ha
  refine decide_eq_true ?_
  show -a.hi.k ≤ -a.lo.k
  omega
theorem sq_rt {r a : I} (ha : rt a = true) (h0 : 0 ≤ a.lo.q) (h1 : SqD r.lo a.lo) (h2 : SqU r.hi a.hi) : rt r = true := by
  have l := rt_le ha
  have := h1.le; have := h2.ge
  exact rt_q (sq_le' h1.nn h2.nn (by grind))
theorem keptI_k (a : I) (l h : F) : (keptI a l h).lo.k = min (max a.lo.k l.k) h.k ∧ (keptI a l h).hi.k = min (max a.hi.k l.k) h.k := by
  unfold keptI
  simp only [mnF_k, mxF_k]
  exact ⟨trivial, trivial⟩
theorem keptI_rt {a : I} {l h : F} (ha : rt a = true) : rt (keptI a l h) = true := by
  have h1 := of_decide_eq_true ha
  obtain ⟨e1, e2⟩ := keptI_k a l h
  refine decide_eq_true ?_
  rw [e1, e2]; omega
theorem hidI_k (a : I) : (hidI a).lo.k = max a.lo.k (toF 0).k ∧ (hidI a).hi.k = max a.hi.k (toF 0).k := by
  unfold hidI
  simp only [mxF_k]
  exact ⟨trivial, trivial⟩
theorem hidI_rt {a : I} (ha : rt a = true) : rt (hidI a) = true := by
  have h1 := of_decide_eq_true ha
  obtain ⟨e1, e2⟩ := hidI_k a
  refine decide_eq_true ?_
  rw [e1, e2]; omega
structure Inn (a b : I) : Prop where
  lo : b.lo.q ≤ a.lo.q
  hi : a.hi.q ≤ b.hi.q
  rt : rt a = true
theorem Inn.mem {a b : I} (h : Inn a b) : Mem b a.lo.q ∧ Mem b a.hi.q := by
  have := rt_le h.rt; have := h.lo; have := h.hi
  exact ⟨⟨h.lo, by grind⟩, ⟨by grind, h.hi⟩⟩
theorem Inn.refl {a : I} (h : Bu.rt a = true) : Inn a a := ⟨Rat.le_refl, Rat.le_refl, h⟩
def MonoO : Op → Prop
  | .lit a => rt a = true
  | .fn f _ => ∀ a b, Inn a b → Inn (f a) (f b)
  | .fn2 f _ _ => ∀ a b c d, Inn a b → Inn c d → Inn (f a c) (f b d)
  | .wi _ => False
  | _ => True
theorem ends_mk {p q : F × Int} (h : p.2 = 0) (k : q.2 = 0) : endsI p q = (⟨p.1, q.1⟩, 0) := by
  unfold endsI; rw [h, k]; rfl
theorem ask_mk {g : Bool} {r : I × Int} (hg : g = true) (h : r.2 = 0) : askI 0 g r = (r.1, 0) := ask_ok hg h
theorem add_inn {a a' b b' : I} (ha : Inn a a') (hb : Inn b b') (h : (cAdd dAdd 0 a' b').2 = 0) : ∃ r, cAdd dAdd 0 a b = (r, 0) ∧ Inn r (cAdd dAdd 0 a' b').1 := by
  obtain ⟨_, _, _, _, d, u⟩ := add_0 h
  generalize (cAdd dAdd 0 a' b').1 = r' at *
  have := d.le; have := u.ge; have := ha.lo; have := ha.hi; have := hb.lo; have := hb.hi
  have p := (dAdd_RD a.lo b.lo).has (c := r'.lo) (by grind)
  have q := (dAdd_RU a.hi b.hi).has (c := r'.hi) (by grind)
  refine ⟨⟨(dAdd false a.lo b.lo).1, (dAdd true a.hi b.hi).1⟩, ?_, ⟨p.2, q.2, ?_⟩⟩
  · unfold cAdd
    rw [ends_mk p.1 q.1, ask_mk (by rw [ha.rt, hb.rt]; rfl) rfl]
  · have := rt_le ha.rt; have := rt_le hb.rt
    exact dn_up ((dAdd_RD a.lo b.lo).ok p.1) ((dAdd_RU a.hi b.hi).ok q.1) (by grind)
theorem sub_inn {a a' b b' : I} (ha : Inn a a') (hb : Inn b b') (h : (cSub dSub 0 a' b').2 = 0) : ∃ r, cSub dSub 0 a b = (r, 0) ∧ Inn r (cSub dSub 0 a' b').1 := by
  obtain ⟨_, _, _, _, d, u⟩ := sub_0 h
  generalize (cSub dSub 0 a' b').1 = r' at *
  have := d.le; have := u.ge; have := ha.lo; have := ha.hi; have := hb.lo; have := hb.hi
  have p := (dSub_RD a.lo b.hi).has (c := r'.lo) (by grind)
  have q := (dSub_RU a.hi b.lo).has (c := r'.hi) (by grind)
  refine ⟨⟨(dSub false a.lo b.hi).1, (dSub true a.hi b.lo).1⟩, ?_, ⟨p.2, q.2, ?_⟩⟩
  · unfold cSub
    rw [ends_mk p.1 q.1, ask_mk (by rw [ha.rt, hb.rt]; rfl) rfl]
  · have := rt_le ha.rt; have := rt_le hb.rt
    exact dn_up ((dSub_RD a.lo b.hi).ok p.1) ((dSub_RU a.hi b.lo).ok q.1) (by grind)
theorem mul_inn {a a' b b' : I} (ha : Inn a a') (hb : Inn b b') (h : (cMul dMul 0 a' b').2 = 0) : ∃ r, cMul dMul 0 a b = (r, 0) ∧ Inn r (cMul dMul 0 a' b').1 := by
  obtain ⟨_, _, _, _, d⟩ := mul_0 h
  generalize (cMul dMul 0 a' b').1 = r' at *
  obtain ⟨a1, a2⟩ := ha.mem
  obtain ⟨b1, b2⟩ := hb.mem
  have m1 := mul_mem d a1 b1
  have m2 := mul_mem d a1 b2
  have m3 := mul_mem d a2 b1
  have m4 := mul_mem d a2 b2
  obtain ⟨r, e, hr, c1, c2⟩ := all_has (mul_four a b) m1.lo m2.lo m3.lo m4.lo m1.hi m2.hi m3.hi m4.hi
  refine ⟨r, ?_, ⟨c1, c2, hr.rt⟩⟩
  unfold cMul
  rw [e, ask_mk (by rw [ha.rt, hb.rt]; rfl) rfl]
theorem div_inn {a a' b b' : I} (ha : Inn a a') (hb : Inn b b') (h : (cDiv pDiv 0 a' b').2 = 0) : ∃ r, cDiv pDiv 0 a b = (r, 0) ∧ Inn r (cDiv pDiv 0 a' b').1 := by
  obtain ⟨_, _, hr', hz, _, d⟩ := div_0 h
  generalize (cDiv pDiv 0 a' b').1 = r' at *
  obtain ⟨a1, a2⟩ := ha.mem
  obtain ⟨b1, b2⟩ := hb.mem
  have n := no_zero hr' hz
  have z : hasB b F.zero = false := by
    unfold hasB
    rw [hb.rt, Bool.true_and, Bool.and_eq_false_iff, decide_eq_false_iff_not, decide_eq_false_iff_not]
    have l1 := hb.lo; have l2 := hb.hi
    rcases n with n | n
    · left; intro k; have := q_le.2 k; rw [q_zero] at this; grind
    · right; intro k; have := q_le.2 k; rw [q_zero] at this; grind
  have m1 := div_in hr' hz d a1 b1
  have m2 := div_in hr' hz d a1 b2
  have m3 := div_in hr' hz d a2 b1
  have m4 := div_in hr' hz d a2 b2
  obtain ⟨r, e, hr, c1, c2⟩ := all_has (div_four (a := a) hb.rt z) m1.lo m2.lo m3.lo m4.lo m1.hi m2.hi m3.hi m4.hi
  refine ⟨r, ?_, ⟨c1, c2, hr.rt⟩⟩
  unfold cDiv
  rw [z, cond_false, e, ask_mk (by rw [ha.rt, hb.rt]; rfl) rfl]
theorem sqr_inn {a a' : I} (ha : Inn a a') (h : (cSqr dMul 0 a').2 = 0) : ∃ r, cSqr dMul 0 a = (r, 0) ∧ Inn r (cSqr dMul 0 a').1 := by
  obtain ⟨_, hr, _, d, u⟩ := sqr_0 h
  generalize (cSqr dMul 0 a').1 = r' at *
  obtain ⟨b1, b2, _⟩ := bare_gen ha.rt
  obtain ⟨e1, e2⟩ := bare_ends ha.rt
  have key : ∀ {x : Rat}, (Mem a x ∨ Mem a (-x)) → Mem r' (x * x) := by
    intro x hx
    have up : ∀ {y : Rat}, Mem a y → Mem a' y := fun hy => ⟨by have := hy.lo; have := ha.lo; grind, by have := hy.hi; have := ha.hi; grind⟩
    rcases hx with hx | hx
    · exact sqr_in' hr d u (up hx)
    · have := sqr_in' hr d u (up hx)
      rwa [show -x * -x = x * x by grind] at this
  have p := (dMul_RD (bareI a).lo (bareI a).lo).has (c := r'.lo) (key e1).lo
  have q := (dMul_RU (bareI a).hi (bareI a).hi).has (c := r'.hi) (key e2).hi
  refine ⟨⟨(dMul false (bareI a).lo (bareI a).lo).1, (dMul true (bareI a).hi (bareI a).hi).1⟩, ?_, ⟨p.2, q.2, ?_⟩⟩
  · unfold cSqr
    rw [ends_mk p.1 q.1, ask_mk ha.rt rfl]
  · exact dn_up ((dMul_RD _ _).ok p.1) ((dMul_RU _ _).ok q.1) (sq_bd (by grind) b2)
theorem sqrt_inn {a a' : I} (ha : Inn a a') (h : (cSqrt qSqrt 0 a').2 = 0) : ∃ r, cSqrt qSqrt 0 a = (r, 0) ∧ Inn r (cSqrt qSqrt 0 a').1 := by
  obtain ⟨_, _, h0, _, d, u⟩ := sqrt_0 h
  generalize (cSqrt qSqrt 0 a').1 = r' at *
  have l1 := ha.lo; have l2 := ha.hi; have l3 := rt_le ha.rt
  obtain ⟨x, e1, s1⟩ := (qSqrt_gen (a := a.lo) (by grind)).1
  obtain ⟨y, e2, s2⟩ := (qSqrt_gen (a := a.hi) (by grind)).2
  have dl := d.le; have ug := u.ge
  refine ⟨⟨x, y⟩, ?_, ⟨s1.top _ d.nn (by grind), s2.bot _ u.nn (by grind), sq_rt (r := ⟨x, y⟩) ha.rt (by grind) s1 s2⟩⟩
  unfold cSqrt
  rw [e1, e2, ends_mk rfl rfl, ask_mk ha.rt rfl]
theorem max_inn {a a' b b' : I} (ha : Inn a a') (hb : Inn b b') : Inn (maxI a b) (maxI a' b') := by
  have h1 := q_le.1 ha.lo; have h2 := q_le.1 ha.hi; have h3 := q_le.1 hb.lo; have h4 := q_le.1 hb.hi
  refine ⟨q_le.2 ?_, q_le.2 ?_, maxI_rt ha.rt hb.rt⟩
  · show (mxF a'.lo b'.lo).k ≤ (mxF a.lo b.lo).k
    rw [mxF_k, mxF_k]; omega
  · show (mxF a.hi b.hi).k ≤ (mxF a'.hi b'.hi).k
    rw [mxF_k, mxF_k]; omega
theorem turn_inn {a a' : I} (ha : Inn a a') : Inn (turnI a) (turnI a') := by
  have h1 := ha.lo; have h2 := ha.hi
  refine ⟨?_, ?_, turnI_rt ha.rt⟩
  · show a'.hi.neg.q ≤ a.hi.neg.q
    rw [q_neg, q_neg]; grind
  · show a.lo.neg.q ≤ a'.lo.neg.q
    rw [q_neg, q_neg]; grind
theorem kept_inn {a a' : I} (l h : F) (ha : Inn a a') : Inn (keptI a l h) (keptI a' l h) := by
  have h1 := q_le.1 ha.lo; have h2 := q_le.1 ha.hi
  obtain ⟨e1, e2⟩ := keptI_k a l h
  obtain ⟨e3, e4⟩ := keptI_k a' l h
  exact ⟨q_le.2 (by rw [e1, e3]; omega), q_le.2 (by rw [e2, e4]; omega), keptI_rt ha.rt⟩
theorem hid_inn {a a' : I} (ha : Inn a a') : Inn (hidI a) (hidI a') := by
  have h1 := q_le.1 ha.lo; have h2 := q_le.1 ha.hi
  obtain ⟨e1, e2⟩ := hidI_k a
  obtain ⟨e3, e4⟩ := hidI_k a'
  exact ⟨q_le.2 (by rw [e1, e3]; omega), q_le.2 (by rw [e2, e4]; omega), hidI_rt ha.rt⟩
theorem step_inn {o : Op} {v v' : List I} (hm : MonoO o) (hv : ∀ i, Inn (gt v i) (gt v' i)) (h : (stepK KkR o v' 0).2 = 0) : ∃ r, stepK KkR o v 0 = (r, 0) ∧ Inn r (stepK KkR o v' 0).1 := by
  cases o with
  | add i j => exact add_inn (hv i) (hv j) h
  | sub i j => exact sub_inn (hv i) (hv j) h
  | mul i j => exact mul_inn (hv i) (hv j) h
  | div i j => exact div_inn (hv i) (hv j) h
  | max i j =>
    obtain ⟨_, _, _, e⟩ := max_0 h
    refine ⟨maxI (gt v i) (gt v j), ask_mk (by rw [(hv i).rt, (hv j).rt]; rfl) rfl, ?_⟩
    show Inn _ (cMax 0 (gt v' i) (gt v' j)).1
    rw [e]; exact max_inn (hv i) (hv j)
  | sqr i => exact sqr_inn (hv i) h
  | sqrt i => exact sqrt_inn (hv i) h
  | neg i =>
    obtain ⟨_, _, e⟩ := neg_0 h
    refine ⟨turnI (gt v i), ask_mk (hv i).rt rfl, ?_⟩
    show Inn _ (cNeg 0 (gt v' i)).1
    rw [e]; exact turn_inn (hv i)
  | num x => exact ⟨⟨x, x⟩, rfl, Inn.refl (decide_eq_true (Int.le_refl _))⟩
  | lit a => exact ⟨a, rfl, Inn.refl hm⟩
  | fn f i => exact ⟨_, rfl, hm _ _ (hv i)⟩
  | fn2 f i j => exact ⟨_, rfl, hm _ _ _ _ (hv i) (hv j)⟩
  | kept l u i => exact ⟨_, rfl, kept_inn l u (hv i)⟩
  | wi i => exact hm.elim
  | hid i => exact ⟨_, rfl, hid_inn (hv i)⟩
theorem eval_inn : ∀ {l : List Op} {v v' : List I}, (∀ o ∈ l, MonoO o) → (∀ i, Inn (gt v i) (gt v' i)) → (evalK KkR l v' 0).2 = 0 → (evalK KkR l v 0).2 = 0 ∧ ∀ i, Inn (gt (evalK KkR l v 0).1 i) (gt (evalK KkR l v' 0).1 i)
  | [], _, _, _, hv, _ => ⟨rfl, hv⟩
  | o :: l, v, v', hm, hv, h => by
    have h1 : (stepK KkR o v' 0).2 = 0 := by
      apply Decidable.byContradiction
      intro k
      have := eval_kept (l := l) (v := (stepK KkR o v' 0).1 :: v') k
      have h' : (evalK KkR l ((stepK KkR o v' 0).1 :: v') (stepK KkR o v' 0).2).2 = 0 := h
      rw [this] at h'
      exact k h'
    obtain ⟨r, e, hr⟩ := step_inn (hm o (by simp)) hv h1
    have h' : (evalK KkR l ((stepK KkR o v' 0).1 :: v') (stepK KkR o v' 0).2).2 = 0 := h
    rw [h1] at h'
    have ih := eval_inn (l := l) (v := r :: v) (fun o ho => hm o (by simp [ho])) (fun i => by
      cases i with
      | zero => exact hr
      | succ i => exact hv i) h'
    rw [eval_cons e, eval_cons (show stepK KkR o v' 0 = ((stepK KkR o v' 0).1, 0) from Prod.ext rfl h1)]
    exact ih
theorem dn_nn {r : F} {v : Rat} (h : Dn r v) (hv : 0 ≤ v) : 0 ≤ r.q := by rw [← q_zero]; exact h.top F.zero (by rw [q_zero]; exact hv)
end Bu
namespace Bu
set_option linter.all false
open Rx Go

def cN32 : F := toF 4751297606873776128
/-- a part of 2^32 - 1 -/
def frT (n : Int) : F := sf (fdv (toF (FloatKind.f64.nearest n)) cN32)
def bwP (a b : F) (n : Int) : F := sf (fmu (sf (fsu b a)) (frT n))
def bwX (a b : F) (n : Int) : F := sf (fad a (bwP a b n))
def bwF (a b : F) (n : Int) : F := bif decide ((bwX a b n).k < a.k) then a else bif decide (b.k < (bwX a b n).k) then b else bwX a b n
def bwO (a b : F) (n : Int) : Obs := so (fad a (bwP a b n)) ++ so (fmu (sf (fsu b a)) (frT n)) ++ so (fdv (toF (FloatKind.f64.nearest n)) cN32) ++ [(rightB (FloatKind.f64.nearest n), true)] ++ so (fsu b a)
def wN32 (n : Int) : Bool := decide (0 ≤ n ∧ n ≤ 4294967295)
/-- two numbers whose difference is a number: D -/
def pairB (a b : F) : Bool := decide (a.k < b.k) && decide (F.zero.k < (sf (fsu b a)).k) && obsB (so (fsu b a)) && decide ((sf (fsu b a)).k ≤ (toF 4625196817309499392).k) && decide ((toF 4625196817309499392).neg.k ≤ a.k) && decide (a.k ≤ (toF 4625196817309499392).k) && decide (fmu (sf (fsu b a)) F.zero = some F.zero.b)
set_option maxRecDepth 100000 in
theorem cN32_z : cN32.z = 4294967295 * (S : Int) ∧ 0 < cN32.k := ⟨of_decide_eq_true (by decide +kernel), of_decide_eq_true (by decide +kernel)⟩
theorem c16_q : (toF 4625196817309499392).q = 16 := q_int (n := 16) (by decide +kernel)
theorem frT_ok {n : Int} (h : wN32 n = true) : ∃ t : F, fdv (toF (FloatKind.f64.nearest n)) cN32 = some t.b ∧ 0 ≤ t.k ∧ t.k ≤ one64.k ∧ rightB (FloatKind.f64.nearest n) = true := by
  have hn := of_decide_eq_true h
  obtain ⟨m, rfl⟩ := Int.eq_ofNat_of_zero_le hn.1
  by_cases hm : m = 0
  · subst hm
    exact ⟨F.zero, by decide +kernel, by decide +kernel, by decide +kernel, by decide +kernel⟩
  · have hP : P = 4503599627370496 := rfl
    have hz := nat_z (m := m) (by omega)
    have hk : 0 < (F.dy m 0).k := by
      have hS := S_pos
      have h2 : 0 < (F.dy m 0).z := by rw [hz]; exact Int.mul_pos (by omega) (by omega)
      have a := z_sign (F.dy m 0)
      have b := z_zero (F.dy m 0)
      omega
    have hle : (F.dy m 0).z ≤ cN32.z := by rw [hz, cN32_z.1]; exact Int.mul_le_mul_of_nonneg_right (by omega) (by have := S_pos; omega)
    obtain ⟨t, e, t0, t1⟩ := div_le1 hk cN32_z.2 hle one64_nv (by rw [T_num]; omega)
    refine ⟨t, ?_, t0, by rw [one64_k]; omega, by rw [near_int (by omega)]; exact right_F _⟩
    unfold fdv
    rw [near_int (by omega), toF_F]; exact e
theorem mul_le1 {x y : F} (hx : 0 < x.k) (hy : 0 < y.k) (h : y.k ≤ one64.k) : ∃ t : F, fmu x y = some t.b ∧ 0 ≤ t.k ∧ t.k ≤ x.k := by
  have hz : y.z ≤ (S : Int) := by
    have h1 := q_le.2 h
    rw [one_q] at h1
    have h2 := F.q_mul y
    have h3 : (y.z : Rat) ≤ ((S : Int) : Rat) := by
      rw [← h2]
      have := Rat.mul_nonneg (show 0 ≤ 1 - y.q by grind) (Rat.le_of_lt S_gt)
      rw [Rat.intCast_natCast]
      generalize (S : Rat) = s at *
      grind
    exact Rat.intCast_le_intCast.1 h3
  have e := mul_F x y (by omega) (by omega)
  rw [decide_eq_false (show ¬ x.k < 0 by omega), decide_eq_false (show ¬ y.k < 0 by omega)] at e
  have hT := x.hk
  have hn : near (x.z.natAbs * y.z.natAbs) S ≤ x.k.natAbs := by
    refine near_le S_pos ?_
    have a := nvk (c := x) (by omega)
    have b := z_sign x; have c := z_sign y
    have : x.z.natAbs = nv x.k.natAbs := by omega
    rw [this]
    exact Nat.mul_le_mul_left _ (by omega)
  rw [Nat.min_eq_left (by omega), show (false ^^ false) = false from rfl, word_F _ _ (by omega) (by simp), if_neg (by decide)] at e
  exact ⟨_, e, by rw [F.of_k (by omega)]; omega, by rw [F.of_k (by omega)]; omega⟩
theorem bw_ok {a b : F} {n : Int} (hp : pairB a b = true) (h : wN32 n = true) : obsB (bwO a b n) = true := by
  unfold pairB at hp
  simp only [Bool.and_eq_true, decide_eq_true_iff] at hp
  obtain ⟨⟨⟨⟨⟨⟨p1, p2⟩, p3⟩, p4⟩, p5⟩, p6⟩, p7⟩ := hp
  obtain ⟨t, e1, t0, t1, hr⟩ := frT_ok h
  obtain ⟨o1, o2⟩ := so_ok e1
  have eT : frT n = t := o2
  have p2' : 0 < (sf (fsu b a)).k := p2
  have hm : ∃ p : F, fmu (sf (fsu b a)) t = some p.b ∧ 0 ≤ p.k ∧ p.k ≤ (sf (fsu b a)).k := by
    by_cases ht : t.k = 0
    · have : t = F.zero := F.ext' ht
      subst this
      exact ⟨F.zero, p7, Int.le_refl _, by show (0 : Int) ≤ _; omega⟩
    · exact mul_le1 p2' (by omega) t1
  obtain ⟨p, e2, q0, q1⟩ := hm
  obtain ⟨o3, o4⟩ := so_ok e2
  have eP : bwP a b n = p := by unfold bwP; rw [eT]; exact o4
  have c := c16_q
  have a1 := q_le.2 p6; have a2 := q_le.2 p5; have a3 := q_le.2 (Int.le_trans q1 p4)
  have a4 : 0 ≤ p.q := by rw [← q_zero]; exact q_le.2 q0
  rw [q_neg] at a2
  obtain ⟨g, hg⟩ := big_ex
  obtain ⟨D, e3, _⟩ := add_nr (x := a) (y := p) (g := g) (by grind) (by grind)
  obtain ⟨o5, _⟩ := so_ok (show fad a p = some D.b from e3)
  unfold bwO
  rw [eP, eT]
  exact ob2 (ob2 (ob2 (ob2 o5 o3) o1) (obsB_yes hr obsB_nil)) p3
theorem bwF_in {a b : F} {n : Int} (h : a.k ≤ b.k) : a.k ≤ (bwF a b n).k ∧ (bwF a b n).k ≤ b.k := by
  unfold bwF
  cases h1 : decide ((bwX a b n).k < a.k)
  · have g1 := of_decide_eq_false h1
    cases h2 : decide (b.k < (bwX a b n).k)
    · have g2 := of_decide_eq_false h2
      simp only [cond_false]; omega
    · exact ⟨h, Int.le_refl _⟩
  · exact ⟨Int.le_refl _, h⟩
def kBw (f : F → F → Int → F) (p : F → F → Bool) (u : Int → Bool) : List SV → Dec → Option (SV × Dec × Obs)
  | [.fl a, .fl b, x], ds => match intS x with
    | some (.u32, n) => some (.fl (f a b n), ds, [(p a b, true), (u n, true)])
    | _ => none
  | _, _ => none
theorem fad_zero (x : F) : fad x (toF 0) = some x.b := by
  unfold fad
  have hz : (toF 0).z = 0 := by decide +kernel
  rw [add_F, hz, Int.add_zero]
  by_cases h : x.k = 0
  · have e : x = F.zero := F.ext' h
    subst e
    rw [if_pos (by rw [F.zero_z])]; rfl
  · have hne : x.z ≠ 0 := fun k => h ((z_zero _).1 k)
    rw [if_neg hne]
    congr 1
    rw [z_natAbs', near_exact (r := x.k.natAbs) (by decide) (by omega)]
    have := x.hk
    rw [show min x.k.natAbs T = x.k.natAbs from by omega, ← word_sign _ h]
    congr 1
    exact decide_eq_decide.2 (z_sign _)
def meetsB (a b : I) : Bool := decide (a.lo.k ≤ b.hi.k) && decide (b.lo.k ≤ a.hi.k)
def pt (x : F) : I := ⟨x, x⟩
def kPt : List SV → Dec → Option (SV × Dec × Obs)
  | [.fl a], ds => some (.agg [.fl a, .fl a], ds, [])
  | _, _ => none
end Bu
