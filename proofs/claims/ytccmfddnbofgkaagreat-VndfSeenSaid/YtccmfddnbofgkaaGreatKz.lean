/- VndfTurned, plain: what is rounded has one answer. Two lines of interval arithmetic side by side: each row of the one is a row of the other, or that turned; found by looking. -/
import Derived.Test.YtccmfddnbofgkaaGreatKt
namespace Bu
set_option linter.all false
open Rx Go

theorem Dn.one {r s : F} {v : Rat} (h : Dn r v) (k : Dn s v) : r = s := by
  have a := h.top _ k.le; have b := k.top _ h.le
  exact q_inj (by grind)
theorem Up.one {r s : F} {v : Rat} (h : Up r v) (k : Up s v) : r = s := by
  have a := h.bot _ k.ge; have b := k.bot _ h.ge
  exact q_inj (by grind)
theorem RD.one {v : Rat} {p s : F × Int} (h : RD v p) (k : RD v s) : p.2 = s.2 ∧ (p.2 = 0 → p.1 = s.1) := by
  rcases h with ⟨a, b⟩ | ⟨a, b⟩ <;> rcases k with ⟨c, d⟩ | ⟨c, d⟩
  · exact ⟨by rw [a, c], fun _ => b.one d⟩
  · exact absurd (d p.1) (by have := b.le; grind)
  · exact absurd (b s.1) (by have := d.le; grind)
  · exact ⟨by rw [a, c], fun h => by rw [a] at h; exact absurd h (by decide)⟩
theorem RU.one {v : Rat} {p s : F × Int} (h : RU v p) (k : RU v s) : p.2 = s.2 ∧ (p.2 = 0 → p.1 = s.1) := by
  rcases h with ⟨a, b⟩ | ⟨a, b⟩ <;> rcases k with ⟨c, d⟩ | ⟨c, d⟩
  · exact ⟨by rw [a, c], fun _ => b.one d⟩
  · exact absurd (d p.1) (by have := b.ge; grind)
  · exact absurd (b s.1) (by have := d.ge; grind)
  · exact ⟨by rw [a, c], fun h => by rw [a] at h; exact absurd h (by decide)⟩
theorem SqD.one {r s a : F} (h : SqD r a) (k : SqD s a) : r = s := by
  have a := h.top _ k.nn k.le; have b := k.top _ h.nn h.le
  exact q_inj (by grind)
theorem SqU.one {r s a : F} (h : SqU r a) (k : SqU s a) : r = s := by
  have a := h.bot _ k.nn k.ge; have b := k.bot _ h.nn h.ge
  exact q_inj (by grind)
/-- the other way round, turned -/
theorem Dn.turn {r : F} {v : Rat} (h : Dn r v) : Up r.neg (-v) := by
  refine ⟨by rw [q_neg]; have := h.le; grind, fun c hc => ?_⟩
  have := h.top c.neg (by rw [q_neg]; grind)
  rw [q_neg] at this ⊢; grind
theorem Up.turn {r : F} {v : Rat} (h : Up r v) : Dn r.neg (-v) := by
  refine ⟨by rw [q_neg]; have := h.ge; grind, fun c hc => ?_⟩
  have := h.bot c.neg (by rw [q_neg]; grind)
  rw [q_neg] at this ⊢; grind
theorem I.one {a b : I} (h1 : a.lo = b.lo) (h2 : a.hi = b.hi) : a = b := by cases a; cases b; simp only at h1 h2; subst h1; subst h2; rfl
theorem AllR.one {r u : I} {p q s t p' q' s' t' : Rat} (h : AllR r p q s t) (k : AllR u p' q' s' t')
    (hp : (p' = p ∨ p' = q ∨ p' = s ∨ p' = t) ∧ (q' = p ∨ q' = q ∨ q' = s ∨ q' = t) ∧ (s' = p ∨ s' = q ∨ s' = s ∨ s' = t) ∧ (t' = p ∨ t' = q ∨ t' = s ∨ t' = t))
    (hk : (p = p' ∨ p = q' ∨ p = s' ∨ p = t') ∧ (q = p' ∨ q = q' ∨ q = s' ∨ q = t') ∧ (s = p' ∨ s = q' ∨ s = s' ∨ s = t') ∧ (t = p' ∨ t = q' ∨ t = s' ∨ t = t')) : r = u := by
  obtain ⟨a1, a2, a3, a4⟩ := h.lo; obtain ⟨b1, b2, b3, b4⟩ := h.hi
  obtain ⟨c1, c2, c3, c4⟩ := k.lo; obtain ⟨d1, d2, d3, d4⟩ := k.hi
  have e1 : ∀ x, (x = p ∨ x = q ∨ x = s ∨ x = t) → r.lo.q ≤ x ∧ x ≤ r.hi.q := by rintro x (rfl | rfl | rfl | rfl) <;> exact ⟨by assumption, by assumption⟩
  have e2 : ∀ x, (x = p' ∨ x = q' ∨ x = s' ∨ x = t') → u.lo.q ≤ x ∧ x ≤ u.hi.q := by rintro x (rfl | rfl | rfl | rfl) <;> exact ⟨by assumption, by assumption⟩
  obtain ⟨p1, p2, p3, p4⟩ := hp; obtain ⟨k1, k2, k3, k4⟩ := hk
  have f1 := k.top (e1 _ p1).1 (e1 _ p2).1 (e1 _ p3).1 (e1 _ p4).1
  have f2 := h.top (e2 _ k1).1 (e2 _ k2).1 (e2 _ k3).1 (e2 _ k4).1
  have g1 := k.bot (e1 _ p1).2 (e1 _ p2).2 (e1 _ p3).2 (e1 _ p4).2
  have g2 := h.bot (e2 _ k1).2 (e2 _ k2).2 (e2 _ k3).2 (e2 _ k4).2
  exact I.one (q_inj (by grind)) (q_inj (by grind))
theorem turn_q (a : I) : (turnI a).lo.q = -a.hi.q ∧ (turnI a).hi.q = -a.lo.q := ⟨q_neg _, q_neg _⟩
theorem AllR.turn {r : I} {p q s t : Rat} (h : AllR r p q s t) : AllR (turnI r) (-p) (-q) (-s) (-t) := by
  obtain ⟨a1, a2, a3, a4⟩ := h.lo; obtain ⟨b1, b2, b3, b4⟩ := h.hi
  obtain ⟨e1, e2⟩ := turn_q r
  refine ⟨⟨by grind, by grind, by grind, by grind⟩, ⟨by grind, by grind, by grind, by grind⟩, ?_, ?_⟩
  · rcases h.hiE with k | k | k | k
    · exact .inl k.turn
    · exact .inr (.inl k.turn)
    · exact .inr (.inr (.inl k.turn))
    · exact .inr (.inr (.inr k.turn))
  · rcases h.loE with k | k | k | k
    · exact .inl k.turn
    · exact .inr (.inl k.turn)
    · exact .inr (.inr (.inl k.turn))
    · exact .inr (.inr (.inr k.turn))
/-! rows of two lines side by side: v, w the intervals at hand -/
section
variable {v w : List I} {i j i' j' : Nat} {r u : I}
theorem s_add (h : Fact (.add i j) v r) (k : Fact (.add i' j') w u) (a : gt w i' = gt v i) (b : gt w j' = gt v j) : u = r := by
  have k1 := k.1; have k2 := k.2
  rw [a, b] at k1 k2
  exact I.one (k1.one h.1) (k2.one h.2)
theorem s_add_c (h : Fact (.add i j) v r) (k : Fact (.add i' j') w u) (a : gt w i' = gt v j) (b : gt w j' = gt v i) : u = r := by
  have k1 := k.1; have k2 := k.2
  rw [a, b, Rat.add_comm] at k1 k2
  exact I.one (k1.one h.1) (k2.one h.2)
theorem s_add_t (h : Fact (.add i j) v r) (k : Fact (.add i' j') w u) (a : gt w i' = turnI (gt v i)) (b : gt w j' = turnI (gt v j)) : u = turnI r := by
  have k1 := k.1; have k2 := k.2
  obtain ⟨e1, e2⟩ := turn_q (gt v i); obtain ⟨e3, e4⟩ := turn_q (gt v j)
  rw [a, b, e1, e3, show ∀ x y : Rat, -x + -y = -(x + y) from fun x y => by grind] at k1
  rw [a, b, e2, e4, show ∀ x y : Rat, -x + -y = -(x + y) from fun x y => by grind] at k2
  exact I.one (k1.one h.2.turn) (k2.one h.1.turn)
theorem s_sub_t (h : Fact (.sub i j) v r) (k : Fact (.sub i' j') w u) (a : gt w i' = gt v j) (b : gt w j' = gt v i) : u = turnI r := by
  have k1 := k.1; have k2 := k.2
  rw [a, b, show ∀ x y : Rat, x - y = -(y - x) from fun x y => by grind] at k1 k2
  exact I.one (k1.one h.2.turn) (k2.one h.1.turn)
theorem s_sub_c (h : Fact (.sub i j) v r) (k : Fact (.sub i' j') w u) (a : gt w i' = turnI (gt v j)) (b : gt w j' = turnI (gt v i)) : u = r := by
  have k1 := k.1; have k2 := k.2
  obtain ⟨e1, e2⟩ := turn_q (gt v i); obtain ⟨e3, e4⟩ := turn_q (gt v j)
  rw [a, b, e2, e3, show ∀ x y : Rat, -y - -x = x - y from fun x y => by grind] at k1
  rw [a, b, e1, e4, show ∀ x y : Rat, -y - -x = x - y from fun x y => by grind] at k2
  exact I.one (k1.one h.1) (k2.one h.2)
theorem s_mul (h : Fact (.mul i j) v r) (k : Fact (.mul i' j') w u) (a : gt w i' = gt v i) (b : gt w j' = gt v j) : u = r := by
  have k1 : AllR u _ _ _ _ := k
  rw [a, b] at k1
  exact k1.one h (by simp) (by simp)
theorem s_mul_t (h : Fact (.mul i j) v r) (k : Fact (.mul i' j') w u) (a : gt w i' = gt v i) (b : gt w j' = turnI (gt v j)) : u = turnI r := by
  have k1 : AllR u _ _ _ _ := k
  obtain ⟨e3, e4⟩ := turn_q (gt v j)
  rw [a, b, e3, e4, Rat.mul_neg, Rat.mul_neg, Rat.mul_neg, Rat.mul_neg] at k1
  exact k1.one (AllR.turn h) (by simp) (by simp)
theorem s_div (h : Fact (.div i j) v r) (k : Fact (.div i' j') w u) (a : gt w i' = gt v i) (b : gt w j' = gt v j) : u = r := by
  have k1 : AllR u _ _ _ _ := k.2
  rw [a, b] at k1
  exact k1.one h.2 (by simp) (by simp)
theorem neg_div' (x y : Rat) : -x / y = -(x / y) := by rw [Rat.div_def, Rat.div_def, Rat.neg_mul]
theorem s_div_t (h : Fact (.div i j) v r) (k : Fact (.div i' j') w u) (a : gt w i' = turnI (gt v i)) (b : gt w j' = gt v j) : u = turnI r := by
  have k1 : AllR u _ _ _ _ := k.2
  obtain ⟨e3, e4⟩ := turn_q (gt v i)
  rw [a, b, e3, e4, neg_div', neg_div', neg_div', neg_div'] at k1
  exact k1.one (AllR.turn h.2) (by simp) (by simp)
theorem s_sqrt (h : Fact (.sqrt i) v r) (k : Fact (.sqrt i') w u) (a : gt w i' = gt v i) : u = r := by
  have k1 := k.2.1; have k2 := k.2.2
  rw [a] at k1 k2
  exact I.one (k1.one h.2.1) (k2.one h.2.2)
theorem s_sqr (h : Fact (.sqr i) v r) (k : Fact (.sqr i') w u) (a : gt w i' = gt v i) : u = r := by
  have k1 := k.1; have k2 := k.2
  rw [a] at k1 k2
  exact I.one (k1.one h.1) (k2.one h.2)
theorem s_max (h : Fact (.max i j) v r) (k : Fact (.max i' j') w u) (a : gt w i' = gt v i) (b : gt w j' = gt v j) : u = r := by
  have k1 : u = _ := k
  rw [a, b] at k1
  exact k1.trans (Eq.symm h)
theorem s_neg (h : Fact (.neg i) v r) (k : Fact (.neg i') w u) (a : gt w i' = gt v i) : u = r := by
  have k1 : u = _ := k
  rw [a] at k1
  exact k1.trans (Eq.symm h)
theorem s_kept {l m : F} (h : Fact (.kept l m i) v r) (k : Fact (.kept l m i') w u) (a : gt w i' = gt v i) : u = r := by
  have k1 : u = _ := k
  rw [a] at k1
  exact k1.trans (Eq.symm h)
theorem bare_turn {a : I} (hr : a.lo.k ≤ a.hi.k) : bareI (turnI a) = bareI a := by
  have e1 : (turnI a).lo.k = -a.hi.k := F.neg_k _
  have e2 : (turnI a).hi.k = -a.lo.k := F.neg_k _
  have z : F.zero.k = 0 := rfl
  refine I.one (F.ext' ?_) (F.ext' ?_)
  · unfold bareI
    by_cases c1 : 0 ≤ a.lo.k <;> by_cases c2 : a.hi.k ≤ 0 <;> by_cases c3 : 0 ≤ (turnI a).lo.k <;> by_cases c4 : (turnI a).hi.k ≤ 0 <;>
      simp only [c1, c2, c3, c4, decide_true, decide_false, cond_true, cond_false] <;> first | rfl | (simp only [turnI, F.neg_k] at *; omega)
  · unfold bareI
    by_cases c1 : 0 ≤ a.lo.k <;> by_cases c2 : a.hi.k ≤ 0 <;> by_cases c3 : 0 ≤ (turnI a).lo.k <;> by_cases c4 : (turnI a).hi.k ≤ 0 <;>
      simp only [c1, c2, c3, c4, decide_true, decide_false, cond_true, cond_false] <;> first | rfl | (simp only [turnI, F.neg_k, mxF_k] at *; omega)
theorem s_sqr_t (h : Fact (.sqr i) v r) (k : Fact (.sqr i') w u) (a : gt w i' = turnI (gt v i)) (hr : (gt v i).lo.k ≤ (gt v i).hi.k) : u = r := by
  have k1 := k.1; have k2 := k.2
  rw [a, bare_turn hr] at k1 k2
  exact I.one (k1.one h.1) (k2.one h.2)
theorem kept_turn (a : I) : keptI (turnI a) mone64 one64 = turnI (keptI a mone64 one64) := by
  have l : mone64.k = -one64.k := by decide +kernel
  have p : 0 ≤ one64.k := by decide +kernel
  refine I.one (F.ext' ?_) (F.ext' ?_) <;> (simp only [keptI, turnI, F.neg_k, mnF_k, mxF_k]; omega)
theorem s_kept_t (h : Fact (.kept mone64 one64 i) v r) (k : Fact (.kept mone64 one64 i') w u) (a : gt w i' = turnI (gt v i)) : u = turnI r := by
  have k1 : u = _ := k
  rw [a, kept_turn] at k1
  exact k1.trans (congrArg turnI (Eq.symm h))
end
end Bu
namespace Bu
set_option linter.all false
open Rx Go

def sgI (s : Bool) (a : I) : I := bif s then turnI a else a
theorem turn_turn (a : I) : turnI (turnI a) = a := I.one (F.ext' (by show (a.lo.neg.neg).k = _; rw [F.neg_k, F.neg_k]; omega)) (F.ext' (by show (a.hi.neg.neg).k = _; rw [F.neg_k, F.neg_k]; omega))
theorem sg_sg (s t : Bool) (a : I) : sgI s (sgI t a) = sgI (s != t) a := by cases s <;> cases t <;> simp [sgI, turn_turn]
/-- all rows tell what they do, of right arguments -/
def ChainR : List Bu.Op → List I → List I → Prop
  | [], v, u => u = v
  | o :: l, v, u => ∃ r, (Fact o v r ∧ ArgsRt o v) ∧ ChainR l (r :: v) u
theorem eval_chainR : ∀ {l : List Bu.Op} {v : List I} {e : Int}, (evalK KkR l v e).2 = 0 → ChainR l v (evalK KkR l v e).1
  | [], _, _, _ => rfl
  | o :: l, v, e, h => by
    have h2 := eval_chainR (l := l) h
    obtain ⟨g1, g3, g2⟩ := step_fact (eval_chain (l := l) h).1
    exact ⟨_, ⟨g2, g3⟩, h2⟩
theorem chain_drop : ∀ {l : List Bu.Op} {v u : List I}, ChainR l v u → u.drop l.length = v
  | [], v, u, h => h
  | o :: l, v, u, ⟨r, _, h⟩ => by
    have := chain_drop h
    rw [show (o :: l).length = l.length + 1 from rfl, ← List.drop_drop, this]; rfl
theorem chain_at : ∀ {l : List Bu.Op} {v u : List I}, ChainR l v u → ∀ {p : Nat} {o : Bu.Op}, l.reverse[p]? = some o → Fact o (u.drop (p + 1)) (gt u p) ∧ ArgsRt o (u.drop (p + 1))
  | [], _, _, _, p, o, h => by simp at h
  | o :: l, v, u, ⟨r, f, h⟩, p, o', hp => by
    rw [List.reverse_cons] at hp
    by_cases k : p < l.reverse.length
    · rw [List.getElem?_append_left k] at hp
      exact chain_at h hp
    · rw [List.getElem?_append_right (by omega)] at hp
      have hl : l.reverse.length = l.length := List.length_reverse
      have d := chain_drop h
      have e : p - l.reverse.length = 0 := by
        cases c : p - l.reverse.length with
        | zero => rfl
        | succ n => rw [c] at hp; simp at hp
      rw [e] at hp
      have pe : p = l.length := by omega
      subst pe
      have eo : o = o' := by simpa using hp
      subst eo
      have e1 : gt u l.length = r := by
        have : (u.drop l.length)[0]? = some r := by rw [d]; rfl
        rw [List.getElem?_drop] at this
        unfold gt
        rw [List.getD_eq_getElem?_getD, show l.length = l.length + 0 from rfl, this]; rfl
      have e2 : u.drop (l.length + 1) = v := by rw [← List.drop_drop, d]; rfl
      rw [e1, e2]; exact f
theorem gt_drop (u : List I) (p i : Nat) : gt (u.drop p) i = gt u (p + i) := by
  unfold gt
  rw [List.getD_eq_getElem?_getD, List.getD_eq_getElem?_getD, List.getElem?_drop]
/-! a register with a sign: a place in the finished line -/
abbrev Sg := Nat × Bool
def twS (z : Bool) (x : Sg) : Sg := (x.1, z != x.2)
def vS (u : List I) (x : Sg) : I := sgI x.2 (gt u x.1)
theorem vs_tw (u : List I) (z : Bool) (x : Sg) : vS u (twS z x) = sgI z (vS u x) := by unfold vS twS; rw [sg_sg]
/-- of a place: of a turned one that which it turns; of a number the first place that has it -/
def eqF (a b : F) : Bool := decide (a.k = b.k)
theorem eqF_ok {a b : F} (h : eqF a b = true) : a = b := F.ext' (of_decide_eq_true h)
def numAt (x : F) : List Bu.Op → Nat → Option Nat
  | [], _ => none
  | o :: t, p => match o with
    | .num y => bif eqF x y then some p else numAt x t (p + 1)
    | _ => numAt x t (p + 1)
theorem numAt_ok {x : F} {L : List Bu.Op} : ∀ {t : List Bu.Op} {p q : Nat}, (∀ i, t[i]? = L[p + i]?) → numAt x t p = some q → L[q]? = some (.num x)
  | [], _, _, _, h => by cases h
  | o :: t, p, q, ht, h => by
    have h0 : L[p]? = some o := by have := ht 0; simpa using this.symm
    have ih : numAt x t (p + 1) = some q → L[q]? = some (.num x) := numAt_ok (p := p + 1) (fun i => by have := ht (i + 1); rw [show p + 1 + i = p + (i + 1) from by omega, ← this]; rfl)
    unfold numAt at h
    split at h
    · rename_i y
      cases c : eqF x y
      · rw [c] at h; exact ih h
      · rw [c] at h
        have e : p = q := by simpa using h
        subst e
        rw [eqF_ok c]; exact h0
    · exact ih h
def canon (L : List Bu.Op) (p : Nat) : Sg := match L[p]? with
  | some (.neg i) => (p + 1 + i, true)
  | some (.num x) => ((numAt x L 0).getD p, false)
  | _ => (p, false)
theorem canon_ok {l : List Bu.Op} {v u : List I} (h : ChainR l v u) (p : Nat) : vS u (canon l.reverse p) = gt u p := by
  unfold canon
  split
  · rename_i i e
    have f : gt u p = turnI (gt (u.drop (p + 1)) i) := (chain_at h e).1
    rw [f, gt_drop]; rfl
  · rename_i x e
    have f : gt u p = ⟨x, x⟩ := (chain_at h e).1
    show gt u _ = _
    cases c : numAt x l.reverse 0 with
    | none => rfl
    | some q =>
      have f' : gt u q = ⟨x, x⟩ := (chain_at h (numAt_ok (fun i => by rw [Nat.zero_add]) c)).1
      rw [f]; exact f'
  · rfl
def eqI (a b : I) : Bool := eqF a.lo b.lo && eqF a.hi b.hi
theorem eqI_ok {a b : I} (h : eqI a b = true) : a = b := by
  obtain ⟨h1, h2⟩ := both h
  exact I.one (eqF_ok h1) (eqF_ok h2)
def eqS (x y : Sg) : Bool := x.1 == y.1 && x.2 == y.2
theorem eqS_ok {x y : Sg} (h : eqS x y = true) : x = y := by
  obtain ⟨h1, h2⟩ := both h
  exact Prod.ext (by simpa using h1) (by simpa using h2)
/-- is row o' (whose arguments are told by m) row o at place p (of the line L), turned if z? -/
def mate (L : List Bu.Op) (m : List Sg) (o' o : Bu.Op) (p : Nat) (z : Bool) : Bool :=
  let X := fun i => m.getD i (0, false)
  let A := fun i => canon L (p + 1 + i)
  let has := fun i => decide (i < m.length)
  match o', o with
  | .add i j, .add a b => has i && has j && (eqS (X i) (twS z (A a)) && eqS (X j) (twS z (A b)) || eqS (X i) (twS z (A b)) && eqS (X j) (twS z (A a)))
  | .sub i j, .sub a b => has i && has j && (eqS (X i) (twS z (A a)) && eqS (X j) (twS z (A b)) || eqS (X i) (twS (!z) (A b)) && eqS (X j) (twS (!z) (A a)))
  | .mul i j, .mul a b => has i && has j && (eqS (X i) (A a) && eqS (X j) (twS z (A b)) || eqS (X i) (twS true (A a)) && eqS (X j) (twS (!z) (A b)) || eqS (X i) (A b) && eqS (X j) (twS z (A a)) || eqS (X i) (twS true (A b)) && eqS (X j) (twS (!z) (A a)))
  | .div i j, .div a b => has i && has j && eqS (X i) (twS z (A a)) && eqS (X j) (A b)
  | .max i j, .max a b => has i && has j && !z && (eqS (X i) (A a) && eqS (X j) (A b))
  | .sqr i, .sqr a => has i && !z && (eqS (X i) (A a) || eqS (X i) (twS true (A a)))
  | .sqrt i, .sqrt a => has i && !z && eqS (X i) (A a)
  | .num x, .num y => !z && eqF x y
  | .lit x, .lit y => !z && eqI x y
  | .kept l h i, .kept l' h' a => has i && eqF l l' && eqF h h' && (!z && eqS (X i) (A a) || z && eqF l mone64 && eqF h one64 && eqS (X i) (twS true (A a)))
  | .wi i, .wi a => has i && !z && eqS (X i) (A a)
  | .hid i, .hid a => has i && !z && eqS (X i) (A a)
  | _, _ => false
def Rel (m : List Sg) (w u : List I) : Prop := ∀ i, i < m.length → gt w i = vS u (m.getD i (0, false))
theorem s_sub {v w : List I} {i j i' j' : Nat} {r u : I} (h : Fact (.sub i j) v r) (k : Fact (.sub i' j') w u) (a : gt w i' = gt v i) (b : gt w j' = gt v j) : u = r := by
  have k1 := k.1; have k2 := k.2
  rw [a, b] at k1 k2
  exact I.one (k1.one h.1) (k2.one h.2)
theorem s_sub_n {v w : List I} {i j i' j' : Nat} {r u : I} (h : Fact (.sub i j) v r) (k : Fact (.sub i' j') w u) (a : gt w i' = turnI (gt v i)) (b : gt w j' = turnI (gt v j)) : u = turnI r := by
  have k1 := k.1; have k2 := k.2
  obtain ⟨e1, e2⟩ := turn_q (gt v i); obtain ⟨e3, e4⟩ := turn_q (gt v j)
  rw [a, b, e1, e4, show ∀ x y : Rat, -x - -y = -(x - y) from fun x y => by grind] at k1
  rw [a, b, e2, e3, show ∀ x y : Rat, -x - -y = -(x - y) from fun x y => by grind] at k2
  exact I.one (k1.one h.2.turn) (k2.one h.1.turn)
theorem s_mul_c {v w : List I} {i j i' j' : Nat} {r u : I} (h : Fact (.mul i j) v r) (k : Fact (.mul i' j') w u) (a : gt w i' = gt v j) (b : gt w j' = gt v i) : u = r := by
  have k1 : AllR u _ _ _ _ := k
  rw [a, b, Rat.mul_comm, Rat.mul_comm (gt v j).lo.q, Rat.mul_comm (gt v j).hi.q, Rat.mul_comm (gt v j).hi.q] at k1
  exact k1.one h (by simp) (by simp)
/-- both factors turned, or one of them -/
theorem s_mul_sg {v w : List I} {i j i' j' : Nat} {r u : I} {s t : Bool} (h : Fact (.mul i j) v r) (k : Fact (.mul i' j') w u) (a : gt w i' = sgI s (gt v i)) (b : gt w j' = sgI t (gt v j)) : u = sgI (s != t) r := by
  have k1 : AllR u _ _ _ _ := k
  obtain ⟨e1, e2⟩ := turn_q (gt v i); obtain ⟨e3, e4⟩ := turn_q (gt v j)
  cases s <;> cases t <;> simp only [sgI, cond_false, cond_true] at a b
  · exact s_mul h k a b
  · exact s_mul_t h k a b
  · rw [a, b, e1, e2, Rat.neg_mul, Rat.neg_mul, Rat.neg_mul, Rat.neg_mul] at k1
    exact k1.one (AllR.turn h) (by simp) (by simp)
  · rw [a, b, e1, e2, e3, e4, Rat.neg_mul, Rat.neg_mul, Rat.neg_mul, Rat.neg_mul, Rat.mul_neg, Rat.mul_neg, Rat.mul_neg, Rat.mul_neg, Rat.neg_neg, Rat.neg_neg, Rat.neg_neg, Rat.neg_neg] at k1
    exact k1.one h (by simp) (by simp)
theorem fact_swap {i j : Nat} {v : List I} {r : I} (h : Fact (.mul i j) v r) : Fact (.mul j i) v r := by
  have k : AllR r _ _ _ _ := h
  show AllR r _ _ _ _
  rw [Rat.mul_comm, Rat.mul_comm (gt v i).lo.q (gt v j).hi.q, Rat.mul_comm (gt v i).hi.q (gt v j).lo.q, Rat.mul_comm (gt v i).hi.q] at k
  exact ⟨⟨k.lo.1, k.lo.2.2.1, k.lo.2.1, k.lo.2.2.2⟩, ⟨k.hi.1, k.hi.2.2.1, k.hi.2.1, k.hi.2.2.2⟩, by rcases k.loE with e | e | e | e <;> simp [e], by rcases k.hiE with e | e | e | e <;> simp [e]⟩
theorem add_swap {i j : Nat} {v : List I} {r : I} (h : Fact (.add i j) v r) : Fact (.add j i) v r :=
  ⟨by have := h.1; rwa [Rat.add_comm] at this, by have := h.2; rwa [Rat.add_comm] at this⟩
theorem mate_ok {l : List Bu.Op} {v u w : List I} {m : List Sg} (h : ChainR l v u) (hm : Rel m w u) {o' o : Bu.Op} {p : Nat} {z : Bool} {r : I} (hp : l.reverse[p]? = some o) (hf : Fact o' w r) (hc : mate l.reverse m o' o p z = true) : r = sgI z (gt u p) := by
  obtain ⟨f, ar⟩ := chain_at h hp
  have A : ∀ i, vS u (canon l.reverse (p + 1 + i)) = gt (u.drop (p + 1)) i := fun i => by rw [canon_ok h, gt_drop]
  generalize hL : l.reverse = L at *
  generalize hV : u.drop (p + 1) = V at *
  have T : ∀ {x : Sg} {z : Bool} {i : Nat}, eqS x (twS z (canon L (p + 1 + i))) = true → vS u x = sgI z (gt V i) := fun {x z i} e => by rw [eqS_ok e, vs_tw, A]
  have Z : ∀ {x : Sg} {i : Nat}, eqS x (canon L (p + 1 + i)) = true → vS u x = gt V i := fun {x i} e => by rw [eqS_ok e, A]
  unfold mate at hc
  split at hc <;> simp only [Bool.and_eq_true, Bool.or_eq_true, decide_eq_true_eq, Bool.not_eq_true', and_assoc] at hc
  · obtain ⟨hi, hj, ⟨e1, e2⟩ | ⟨e1, e2⟩⟩ := hc
    · have a := (hm _ hi).trans (T e1); have b := (hm _ hj).trans (T e2)
      cases z
      · exact s_add f hf a b
      · exact s_add_t f hf a b
    · have a := (hm _ hi).trans (T e1); have b := (hm _ hj).trans (T e2)
      cases z
      · exact s_add_c f hf a b
      · exact s_add_t (add_swap f) hf a b
  · obtain ⟨hi, hj, ⟨e1, e2⟩ | ⟨e1, e2⟩⟩ := hc
    · have a := (hm _ hi).trans (T e1); have b := (hm _ hj).trans (T e2)
      cases z
      · exact s_sub f hf a b
      · exact s_sub_n f hf a b
    · have a := (hm _ hi).trans (T e1); have b := (hm _ hj).trans (T e2)
      cases z
      · exact s_sub_c f hf a b
      · exact s_sub_t f hf a b
  · obtain ⟨hi, hj, ((⟨e1, e2⟩ | ⟨e1, e2⟩) | ⟨e1, e2⟩) | ⟨e1, e2⟩⟩ := hc
    · have a := (hm _ hi).trans (Z e1); have b := (hm _ hj).trans (T e2)
      have := s_mul_sg (s := false) (t := z) f hf a b
      cases z <;> exact this
    · have a := (hm _ hi).trans (T e1); have b := (hm _ hj).trans (T e2)
      have := s_mul_sg (s := true) (t := !z) f hf a b
      cases z <;> exact this
    · have a := (hm _ hi).trans (Z e1); have b := (hm _ hj).trans (T e2)
      have := s_mul_sg (s := false) (t := z) (fact_swap f) hf a b
      cases z <;> exact this
    · have a := (hm _ hi).trans (T e1); have b := (hm _ hj).trans (T e2)
      have := s_mul_sg (s := true) (t := !z) (fact_swap f) hf a b
      cases z <;> exact this
  · obtain ⟨hi, hj, e1, e2⟩ := hc
    have a := (hm _ hi).trans (T e1); have b := (hm _ hj).trans (Z e2)
    cases z
    · exact s_div f hf a b
    · exact s_div_t f hf a b
  · obtain ⟨hi, hj, rfl, e1, e2⟩ := hc
    exact s_max f hf ((hm _ hi).trans (Z e1)) ((hm _ hj).trans (Z e2))
  · obtain ⟨hi, rfl, e1 | e1⟩ := hc
    · exact s_sqr f hf ((hm _ hi).trans (Z e1))
    · exact s_sqr_t f hf ((hm _ hi).trans (T e1)) (of_decide_eq_true ar)
  · obtain ⟨hi, rfl, e1⟩ := hc
    exact s_sqrt f hf ((hm _ hi).trans (Z e1))
  · obtain ⟨rfl, e1⟩ := hc
    have a : r = _ := hf
    have b : gt u p = _ := f
    rw [a, eqF_ok e1]; exact b.symm
  · obtain ⟨rfl, e1⟩ := hc
    have a : r = _ := hf
    have b : gt u p = _ := f
    rw [a, eqI_ok e1]; exact b.symm
  · obtain ⟨hi, e1, e2, ⟨rfl, e3⟩ | ⟨rfl, e3, e4, e5⟩⟩ := hc
    · rw [eqF_ok e1, eqF_ok e2] at hf
      exact s_kept f hf ((hm _ hi).trans (Z e3))
    · rw [eqF_ok e3, eqF_ok e4] at hf
      rw [← eqF_ok e1, ← eqF_ok e2, eqF_ok e3, eqF_ok e4] at f
      exact s_kept_t f hf ((hm _ hi).trans (T e5))
  · obtain ⟨hi, rfl, e1⟩ := hc
    have a : r = _ := hf
    have b : gt u p = _ := f
    rw [a, (hm _ hi).trans (Z e1)]; exact b.symm
  · obtain ⟨hi, rfl, e1⟩ := hc
    have a : r = _ := hf
    have b : gt u p = _ := f
    rw [a, (hm _ hi).trans (Z e1)]; exact b.symm
  · cases hc
/-- looks for a row's mate, from place p on -/
def seek (L : List Bu.Op) (m : List Sg) (o' : Bu.Op) : List Bu.Op → Nat → Option Sg
  | [], _ => none
  | o :: t, p => bif mate L m o' o p false then some (p, false) else bif mate L m o' o p true then some (p, true) else seek L m o' t (p + 1)
theorem seek_ok {L : List Bu.Op} {m : List Sg} {o' : Bu.Op} : ∀ {t : List Bu.Op} {p : Nat} {x : Sg}, (∀ i, t[i]? = L[p + i]?) → seek L m o' t p = some x → ∃ o, L[x.1]? = some o ∧ mate L m o' o x.1 x.2 = true
  | [], _, _, _, h => by cases h
  | o :: t, p, x, ht, h => by
    unfold seek at h
    have h0 : L[p]? = some o := by have := ht 0; simpa using this.symm
    cases c1 : mate L m o' o p false
    · rw [c1, cond_false] at h
      cases c2 : mate L m o' o p true
      · rw [c2, cond_false] at h
        exact seek_ok (p := p + 1) (fun i => by have := ht (i + 1); rw [show p + 1 + i = p + (i + 1) from by omega, ← this]; rfl) h
      · rw [c2, cond_true] at h
        cases h; exact ⟨o, h0, c2⟩
    · rw [c1, cond_true] at h
      cases h; exact ⟨o, h0, c1⟩
def twin (L : List Bu.Op) : List Bu.Op → List Sg → Option (List Sg)
  | [], m => some m
  | o :: t, m => match o with
    | .neg i => bif decide (i < m.length) then twin L t (twS true (m.getD i (0, false)) :: m) else none
    | o => match seek L m o L 0 with
      | some x => twin L t ((bif x.2 then twS true (canon L x.1) else canon L x.1) :: m)
      | none => none
theorem rel_cons {m : List Sg} {w u : List I} {r : I} {x : Sg} (h : Rel m w u) (e : r = vS u x) : Rel (x :: m) (r :: w) u := by
  intro i hi
  cases i with
  | zero => exact e
  | succ i => exact h i (by simpa using hi)
theorem twin_ok {l : List Bu.Op} {v u : List I} (h : ChainR l v u) : ∀ {t : List Bu.Op} {w u' : List I} {m k : List Sg}, ChainR t w u' → Rel m w u → twin l.reverse t m = some k → Rel k u' u
  | [], w, u', m, k, hc, hm, hk => by
    cases hk
    rw [show u' = w from hc]; exact hm
  | o :: t, w, u', m, k, ⟨r, ⟨f, _⟩, hc⟩, hm, hk => by
    have gen : (∀ i, o ≠ .neg i) → Rel k u' u := by
      intro hn
      have hk' : (match seek l.reverse m o l.reverse 0 with
        | some x => twin l.reverse t ((bif x.2 then twS true (canon l.reverse x.1) else canon l.reverse x.1) :: m)
        | none => none) = some k := by
        rw [← hk]
        cases o <;> first | rfl | exact absurd rfl (hn _)
      split at hk'
      · rename_i x hx
        obtain ⟨o2, h1, h2⟩ := seek_ok (fun i => by rw [Nat.zero_add]) hx
        have e := mate_ok h hm h1 f h2
        refine twin_ok h hc (rel_cons hm ?_) hk'
        rw [e]
        cases x.2
        · exact (canon_ok h _).symm
        · rw [cond_true, vs_tw, canon_ok h]
      · cases hk'
    cases o with
    | neg i =>
      unfold twin at hk
      simp only at hk
      cases c : decide (i < m.length)
      · rw [c] at hk; cases hk
      · rw [c, cond_true] at hk
        refine twin_ok h hc (rel_cons hm ?_) hk
        rw [vs_tw, ← hm i (of_decide_eq_true c)]; exact f
    | _ => exact gen (fun i => by simp)
end Bu
