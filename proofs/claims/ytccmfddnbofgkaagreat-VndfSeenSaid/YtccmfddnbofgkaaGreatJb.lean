/- Straight lines: programs of interval arithmetic, row by row: what holds where there is no error, which errors there may be, what parts of intervals make of them. -/
import Derived.Test.YtccmfddnbofgkaaGreatJa
namespace Bu
set_option linter.all false
open Rx Go

structure Kk where
  add : Int → I → I → I × Int
  sub : Int → I → I → I × Int
  mul : Int → I → I → I × Int
  div : Int → I → I → I × Int
  max : Int → I → I → I × Int
  sqr : Int → I → I × Int
  sqrt : Int → I → I × Int
  neg : Int → I → I × Int
  num : Int → F → I × Int
def KkR : Kk := ⟨KTR.add, KTR.sub, KTR.mul, KTR.div, cMax, KTR.sqr, cSqrt qSqrt, KTR.neg, KTR.num⟩
inductive Op where
  | add (i j : Nat)
  | sub (i j : Nat)
  | mul (i j : Nat)
  | div (i j : Nat)
  | max (i j : Nat)
  | sqr (i : Nat)
  | sqrt (i : Nat)
  | neg (i : Nat)
  | num (x : F)
  | lit (a : I)
  | fn (f : I → I) (i : Nat)
  | fn2 (f : I → I → I) (i j : Nat)
  | kept (l h : F) (i : Nat)
  | wi (i : Nat)
  | hid (i : Nat)
def hidI (a : I) : I := ⟨mxF a.lo (toF 0), mxF a.hi (toF 0)⟩
def gt (v : List I) (i : Nat) : I := v.getD i I.zero
def stepK (K : Kk) (o : Op) (v : List I) (e : Int) : I × Int :=
  match o with
  | .add i j => K.add e (gt v i) (gt v j)
  | .sub i j => K.sub e (gt v i) (gt v j)
  | .mul i j => K.mul e (gt v i) (gt v j)
  | .div i j => K.div e (gt v i) (gt v j)
  | .max i j => K.max e (gt v i) (gt v j)
  | .sqr i => K.sqr e (gt v i)
  | .sqrt i => K.sqrt e (gt v i)
  | .neg i => K.neg e (gt v i)
  | .num x => K.num e x
  | .lit a => (a, e)
  | .fn f i => (f (gt v i), e)
  | .fn2 f i j => (f (gt v i) (gt v j), e)
  | .kept l h i => (keptI (gt v i) l h, e)
  | .wi i => (withI (gt v i), e)
  | .hid i => (hidI (gt v i), e)
def evalK (K : Kk) : List Op → List I → Int → List I × Int
  | [], v, e => (v, e)
  | o :: l, v, e => evalK K l ((stepK K o v e).1 :: v) (stepK K o v e).2
/-- what a row tells -/
def Fact (o : Op) (v : List I) (r : I) : Prop :=
  match o with
  | .add i j => Dn r.lo ((gt v i).lo.q + (gt v j).lo.q) ∧ Up r.hi ((gt v i).hi.q + (gt v j).hi.q)
  | .sub i j => Dn r.lo ((gt v i).lo.q - (gt v j).hi.q) ∧ Up r.hi ((gt v i).hi.q - (gt v j).lo.q)
  | .mul i j => AllR r ((gt v i).lo.q * (gt v j).lo.q) ((gt v i).lo.q * (gt v j).hi.q) ((gt v i).hi.q * (gt v j).lo.q) ((gt v i).hi.q * (gt v j).hi.q)
  | .div i j => hasB (gt v j) F.zero = false ∧ AllR r ((gt v i).lo.q / (gt v j).lo.q) ((gt v i).lo.q / (gt v j).hi.q) ((gt v i).hi.q / (gt v j).lo.q) ((gt v i).hi.q / (gt v j).hi.q)
  | .max i j => r = maxI (gt v i) (gt v j)
  | .sqr i => Dn r.lo ((bareI (gt v i)).lo.q * (bareI (gt v i)).lo.q) ∧ Up r.hi ((bareI (gt v i)).hi.q * (bareI (gt v i)).hi.q)
  | .sqrt i => 0 ≤ (gt v i).lo.q ∧ SqD r.lo (gt v i).lo ∧ SqU r.hi (gt v i).hi
  | .neg i => r = turnI (gt v i)
  | .num x => r = ⟨x, x⟩
  | .lit a => r = a
  | .fn f i => r = f (gt v i)
  | .fn2 f i j => r = f (gt v i) (gt v j)
  | .kept l h i => r = keptI (gt v i) l h
  | .wi i => r = withI (gt v i)
  | .hid i => r = hidI (gt v i)
/-- a row's arguments are intervals -/
def ArgsRt (o : Op) (v : List I) : Prop :=
  match o with
  | .add i j | .sub i j | .mul i j | .div i j | .max i j => rt (gt v i) = true ∧ rt (gt v j) = true
  | .sqr i | .sqrt i | .neg i => rt (gt v i) = true
  | _ => True
theorem step_fact {o : Op} {v : List I} {e : Int} (h : (stepK KkR o v e).2 = 0) : e = 0 ∧ ArgsRt o v ∧ Fact o v (stepK KkR o v e).1 := by
  cases o with
  | add i j => obtain ⟨a, b, c, _, d⟩ := add_0 h; exact ⟨a, ⟨b, c⟩, d⟩
  | sub i j => obtain ⟨a, b, c, _, d⟩ := sub_0 h; exact ⟨a, ⟨b, c⟩, d⟩
  | mul i j => obtain ⟨a, b, c, _, d⟩ := mul_0 h; exact ⟨a, ⟨b, c⟩, d⟩
  | div i j => obtain ⟨a, b, c, d, _, f⟩ := div_0 h; exact ⟨a, ⟨b, c⟩, d, f⟩
  | max i j => obtain ⟨a, b, c, d⟩ := max_0 h; exact ⟨a, ⟨b, c⟩, congrArg Prod.fst d⟩
  | sqr i => obtain ⟨a, b, _, d⟩ := sqr_0 h; exact ⟨a, b, d⟩
  | sqrt i => obtain ⟨a, b, c, _, d⟩ := sqrt_0 h; exact ⟨a, b, c, d⟩
  | neg i => obtain ⟨a, b, d⟩ := neg_0 h; exact ⟨a, b, congrArg Prod.fst d⟩
  | num x => obtain ⟨a, d⟩ := num_0 h; exact ⟨a, trivial, congrArg Prod.fst d⟩
  | lit a => exact ⟨h, trivial, rfl⟩
  | fn f i => exact ⟨h, trivial, rfl⟩
  | fn2 f i j => exact ⟨h, trivial, rfl⟩
  | kept l u i => exact ⟨h, trivial, rfl⟩
  | wi i => exact ⟨h, trivial, rfl⟩
  | hid i => exact ⟨h, trivial, rfl⟩
theorem step_kept {o : Op} {v : List I} {e : Int} (he : e ≠ 0) : (stepK KkR o v e).2 = e := by
  cases o with
  | add i j => exact congrArg Prod.snd (ask_kept he _ _)
  | sub i j => exact congrArg Prod.snd (ask_kept he _ _)
  | mul i j => exact congrArg Prod.snd (ask_kept he _ _)
  | div i j => exact congrArg Prod.snd (ask_kept he _ _)
  | max i j => exact congrArg Prod.snd (ask_kept he _ _)
  | sqr i => exact congrArg Prod.snd (ask_kept he _ _)
  | sqrt i => exact congrArg Prod.snd (ask_kept he _ _)
  | neg i => exact congrArg Prod.snd (ask_kept he _ _)
  | num x => exact congrArg Prod.snd (ask_kept he _ _)
  | lit a => rfl
  | fn f i => rfl
  | fn2 f i j => rfl
  | kept l u i => rfl
  | wi i => rfl
  | hid i => rfl
theorem eval_kept : ∀ {l : List Op} {v : List I} {e : Int}, e ≠ 0 → (evalK KkR l v e).2 = e
  | [], _, _, _ => rfl
  | o :: l, v, e, he => by
    show (evalK KkR l ((stepK KkR o v e).1 :: v) (stepK KkR o v e).2).2 = e
    rw [step_kept he]; exact eval_kept he
/-- all rows tell what they do -/
def Chain : List Op → List I → List I → Prop
  | [], v, u => u = v
  | o :: l, v, u => ∃ r, Fact o v r ∧ Chain l (r :: v) u
theorem eval_chain : ∀ {l : List Op} {v : List I} {e : Int}, (evalK KkR l v e).2 = 0 → e = 0 ∧ Chain l v (evalK KkR l v e).1
  | [], _, _, h => ⟨h, rfl⟩
  | o :: l, v, e, h => by
    obtain ⟨h1, h2⟩ := eval_chain (l := l) h
    obtain ⟨g1, _, g2⟩ := step_fact h1
    exact ⟨g1, _, g2, h2⟩
theorem eval_cons {K : Kk} {o : Op} {l : List Op} {v : List I} {r : I} {e e' : Int} (h : stepK K o v e = (r, e')) : evalK K (o :: l) v e = evalK K l (r :: v) e' := by
  show evalK K l ((stepK K o v e).1 :: v) (stepK K o v e).2 = _
  rw [h]
/-! right -/
theorem dn_up {l h : F} {v w : Rat} (a : Dn l v) (b : Up h w) (c : v ≤ w) : rt ⟨l, h⟩ = true := rt_q (by have := a.le; have := b.ge; show l.q ≤ h.q; grind)
theorem AllR.rt {r : I} {p q s t : Rat} (h : AllR r p q s t) : rt r = true := rt_q (Rat.le_trans h.lo.1 h.hi.1)
theorem maxI_rt {a b : I} (ha : rt a = true) (hb : rt b = true) : rt (maxI a b) = true := by
  have h1 := of_decide_eq_true ha; have h2 := of_decide_eq_true hb
  refine decide_eq_true ?_
  show (mxF a.lo b.lo).k ≤ (mxF a.hi b.hi).k
  rw [mxF_k, mxF_k]; omega
theorem turnI_rt {a : I} (ha : rt a = true) : rt (turnI a) = true := by
  have h1 := of_decide_eq_true ha
  refine decide_eq_true ?_
  show -a.hi.k ≤ -a.lo.k
  omega
theorem sq_rt {r a : I} (ha : rt a = true) (h0 : 0 ≤ a.lo.q) (h1 : SqD r.lo a.lo) (h2 : SqU r.hi a.hi) : rt r = true := by
  have l := rt_le ha
  have := h1.le; have := h2.ge
  exact rt_q (sq_le' h1.nn h2.nn (by grind))
theorem keptI_k (a : I) (l h : F) : (keptI a l h).lo.k = min (max a.lo.k l.k) h.k ∧ (keptI a l h).hi.k = min (max a.hi.k l.k) h.k := by
  unfold keptI
  simp only [mnF_k, mxF_k]
  exact ⟨trivial, trivial⟩
theorem keptI_rt {a : I} {l h : F} (ha : rt a = true) : rt (keptI a l h) = true := by
  have h1 := of_decide_eq_true ha
  obtain ⟨e1, e2⟩ := keptI_k a l h
  refine decide_eq_true ?_
  rw [e1, e2]; omega
theorem withI_rt (a : I) : rt (withI a) = true := by
  unfold withI
  cases h : decide ((mnF a.hi one64).k < (mxF a.lo mone64).k)
  · have := of_decide_eq_false h
    exact decide_eq_true (by show (mxF a.lo mone64).k ≤ (mnF a.hi one64).k; omega)
  · exact (show rt I.zero = true by decide)
theorem hidI_k (a : I) : (hidI a).lo.k = max a.lo.k (toF 0).k ∧ (hidI a).hi.k = max a.hi.k (toF 0).k := by
  unfold hidI
  simp only [mxF_k]
  exact ⟨trivial, trivial⟩
theorem hidI_rt {a : I} (ha : rt a = true) : rt (hidI a) = true := by
  have h1 := of_decide_eq_true ha
  obtain ⟨e1, e2⟩ := hidI_k a
  refine decide_eq_true ?_
  rw [e1, e2]; omega
def okO (o : Op) (v : List I) : Prop :=
  match o with
  | .sqrt i => 0 ≤ (gt v i).lo.q
  | .lit a => rt a = true
  | .fn f i => rt (f (gt v i)) = true
  | .fn2 f i j => rt (f (gt v i) (gt v j)) = true
  | _ => True
theorem gt_rt {v : List I} (h : ∀ a ∈ v, rt a = true) (i : Nat) : rt (gt v i) = true := by
  unfold gt
  rw [List.getD_eq_getElem?_getD]
  cases k : v[i]? with
  | none => decide
  | some a => exact h a (List.mem_of_getElem? k)
theorem fact_rt {o : Op} {v : List I} {r : I} (hv : ∀ a ∈ v, rt a = true) (ho : okO o v) (h : Fact o v r) : rt r = true := by
  have g := gt_rt hv
  cases o with
  | add i j => have a := rt_le (g i); have b := rt_le (g j); exact dn_up h.1 h.2 (by grind)
  | sub i j => have a := rt_le (g i); have b := rt_le (g j); exact dn_up h.1 h.2 (by grind)
  | mul i j => exact h.rt
  | div i j => exact h.2.rt
  | max i j => rw [show r = _ from h]; exact maxI_rt (g i) (g j)
  | sqr i =>
    obtain ⟨b1, b2, _⟩ := bare_gen (g i)
    have := sq_bd (x := (bareI (gt v i)).lo.q) (m := (bareI (gt v i)).hi.q) (by grind) b2
    exact dn_up h.1 h.2 this
  | sqrt i => exact sq_rt (g i) ho h.2.1 h.2.2
  | neg i => rw [show r = _ from h]; exact turnI_rt (g i)
  | num x => rw [show r = _ from h]; exact decide_eq_true (Int.le_refl _)
  | lit a => rw [show r = _ from h]; exact ho
  | fn f i => rw [show r = _ from h]; exact ho
  | fn2 f i j => rw [show r = _ from h]; exact ho
  | kept l u i => rw [show r = _ from h]; exact keptI_rt (g i)
  | wi i => rw [show r = _ from h]; exact withI_rt _
  | hid i => rw [show r = _ from h]; exact hidI_rt (g i)
/-! errors -/
theorem qSqrt_er {up : Bool} {a : F} (h : 0 ≤ a.q) : (qSqrt up a).2 = 0 := by
  cases up
  · obtain ⟨r, e, _⟩ := (qSqrt_gen h).1; rw [e]
  · obtain ⟨r, e, _⟩ := (qSqrt_gen h).2; rw [e]
theorem step_er {o : Op} {v : List I} (hv : ∀ a ∈ v, rt a = true) (ho : okO o v) : Er (stepK KkR o v 0).2 := by
  have g := gt_rt hv
  have z : Er 0 := .inl rfl
  have two : ∀ {i j}, (rt (gt v i) && rt (gt v j)) = true := by intro i j; rw [g i, g j]; rfl
  cases o with
  | add i j => exact ask_er z two (ends_er (dAdd_RD _ _).er (dAdd_RU _ _).er)
  | sub i j => exact ask_er z two (ends_er (dSub_RD _ _).er (dSub_RU _ _).er)
  | mul i j => exact ask_er z two (all_er (mul_four _ _))
  | div i j =>
    refine ask_er z two ?_
    cases k : hasB (gt v j) F.zero
    · exact all_er (div_four (g j) k)
    · exact .inr (.inr rfl)
  | max i j => exact ask_er z two z
  | sqr i => exact ask_er z (g i) (ends_er (dMul_RD _ _).er (dMul_RU _ _).er)
  | sqrt i =>
    have l := rt_le (g i)
    have ho' : 0 ≤ (gt v i).lo.q := ho
    exact ask_er z (g i) (ends_er (.inl (qSqrt_er ho')) (.inl (qSqrt_er (by grind))))
  | neg i => exact ask_er z (g i) z
  | num x => exact ask_er z rfl z
  | lit a => exact z
  | fn f i => exact z
  | fn2 f i j => exact z
  | kept l u i => exact z
  | wi i => exact z
  | hid i => exact z
def CondE : List Op → List I → Prop
  | [], _ => True
  | o :: l, v => okO o v ∧ ∀ r, Fact o v r → rt r = true → CondE l (r :: v)
theorem eval_er : ∀ {l : List Op} {v : List I}, (∀ a ∈ v, rt a = true) → CondE l v → Er (evalK KkR l v 0).2
  | [], _, _, _ => .inl rfl
  | o :: l, v, hv, hc => by
    have h := step_er hv hc.1
    by_cases k : (stepK KkR o v 0).2 = 0
    · obtain ⟨_, _, f⟩ := step_fact k
      have r := fact_rt hv hc.1 f
      have ih := eval_er (l := l) (v := (stepK KkR o v 0).1 :: v) (fun a ha => by
        rcases List.mem_cons.1 ha with rfl | ha
        · exact r
        · exact hv a ha) (hc.2 _ f r)
      show Er (evalK KkR l ((stepK KkR o v 0).1 :: v) (stepK KkR o v 0).2).2
      rw [k]; exact ih
    · show Er (evalK KkR l ((stepK KkR o v 0).1 :: v) (stepK KkR o v 0).2).2
      rw [eval_kept k]; exact h
/-! parts -/
structure Inn (a b : I) : Prop where
  lo : b.lo.q ≤ a.lo.q
  hi : a.hi.q ≤ b.hi.q
  rt : rt a = true
theorem Inn.rt' {a b : I} (h : Inn a b) : Bu.rt b = true := rt_q (by have := rt_le h.rt; have := h.lo; have := h.hi; grind)
theorem Inn.mem {a b : I} (h : Inn a b) : Mem b a.lo.q ∧ Mem b a.hi.q := by
  have := rt_le h.rt; have := h.lo; have := h.hi
  exact ⟨⟨h.lo, by grind⟩, ⟨by grind, h.hi⟩⟩
theorem Inn.refl {a : I} (h : Bu.rt a = true) : Inn a a := ⟨Rat.le_refl, Rat.le_refl, h⟩
def MonoO : Op → Prop
  | .lit a => rt a = true
  | .fn f _ => ∀ a b, Inn a b → Inn (f a) (f b)
  | .fn2 f _ _ => ∀ a b c d, Inn a b → Inn c d → Inn (f a c) (f b d)
  | .wi _ => False
  | _ => True
theorem ends_mk {p q : F × Int} (h : p.2 = 0) (k : q.2 = 0) : endsI p q = (⟨p.1, q.1⟩, 0) := by
  unfold endsI; rw [h, k]; rfl
theorem ask_mk {g : Bool} {r : I × Int} (hg : g = true) (h : r.2 = 0) : askI 0 g r = (r.1, 0) := ask_ok hg h
theorem add_inn {a a' b b' : I} (ha : Inn a a') (hb : Inn b b') (h : (cAdd dAdd 0 a' b').2 = 0) : ∃ r, cAdd dAdd 0 a b = (r, 0) ∧ Inn r (cAdd dAdd 0 a' b').1 := by
  obtain ⟨_, _, _, _, d, u⟩ := add_0 h
  generalize (cAdd dAdd 0 a' b').1 = r' at *
  have := d.le; have := u.ge; have := ha.lo; have := ha.hi; have := hb.lo; have := hb.hi
  have p := (dAdd_RD a.lo b.lo).has (c := r'.lo) (by grind)
  have q := (dAdd_RU a.hi b.hi).has (c := r'.hi) (by grind)
  refine ⟨⟨(dAdd false a.lo b.lo).1, (dAdd true a.hi b.hi).1⟩, ?_, ⟨p.2, q.2, ?_⟩⟩
  · unfold cAdd
    rw [ends_mk p.1 q.1, ask_mk (by rw [ha.rt, hb.rt]; rfl) rfl]
  · have := rt_le ha.rt; have := rt_le hb.rt
    exact dn_up ((dAdd_RD a.lo b.lo).ok p.1) ((dAdd_RU a.hi b.hi).ok q.1) (by grind)
theorem sub_inn {a a' b b' : I} (ha : Inn a a') (hb : Inn b b') (h : (cSub dSub 0 a' b').2 = 0) : ∃ r, cSub dSub 0 a b = (r, 0) ∧ Inn r (cSub dSub 0 a' b').1 := by
  obtain ⟨_, _, _, _, d, u⟩ := sub_0 h
  generalize (cSub dSub 0 a' b').1 = r' at *
  have := d.le; have := u.ge; have := ha.lo; have := ha.hi; have := hb.lo; have := hb.hi
  have p := (dSub_RD a.lo b.hi).has (c := r'.lo) (by grind)
  have q := (dSub_RU a.hi b.lo).has (c := r'.hi) (by grind)
  refine ⟨⟨(dSub false a.lo b.hi).1, (dSub true a.hi b.lo).1⟩, ?_, ⟨p.2, q.2, ?_⟩⟩
  · unfold cSub
    rw [ends_mk p.1 q.1, ask_mk (by rw [ha.rt, hb.rt]; rfl) rfl]
  · have := rt_le ha.rt; have := rt_le hb.rt
    exact dn_up ((dSub_RD a.lo b.hi).ok p.1) ((dSub_RU a.hi b.lo).ok q.1) (by grind)
theorem mul_inn {a a' b b' : I} (ha : Inn a a') (hb : Inn b b') (h : (cMul dMul 0 a' b').2 = 0) : ∃ r, cMul dMul 0 a b = (r, 0) ∧ Inn r (cMul dMul 0 a' b').1 := by
  obtain ⟨_, _, _, _, d⟩ := mul_0 h
  generalize (cMul dMul 0 a' b').1 = r' at *
  obtain ⟨a1, a2⟩ := ha.mem
  obtain ⟨b1, b2⟩ := hb.mem
  have m1 := mul_mem d a1 b1
  have m2 := mul_mem d a1 b2
  have m3 := mul_mem d a2 b1
  have m4 := mul_mem d a2 b2
  obtain ⟨r, e, hr, c1, c2⟩ := all_has (mul_four a b) m1.lo m2.lo m3.lo m4.lo m1.hi m2.hi m3.hi m4.hi
  refine ⟨r, ?_, ⟨c1, c2, hr.rt⟩⟩
  unfold cMul
  rw [e, ask_mk (by rw [ha.rt, hb.rt]; rfl) rfl]
theorem div_inn {a a' b b' : I} (ha : Inn a a') (hb : Inn b b') (h : (cDiv pDiv 0 a' b').2 = 0) : ∃ r, cDiv pDiv 0 a b = (r, 0) ∧ Inn r (cDiv pDiv 0 a' b').1 := by
  obtain ⟨_, _, hr', hz, _, d⟩ := div_0 h
  generalize (cDiv pDiv 0 a' b').1 = r' at *
  obtain ⟨a1, a2⟩ := ha.mem
  obtain ⟨b1, b2⟩ := hb.mem
  have n := no_zero hr' hz
  have z : hasB b F.zero = false := by
    unfold hasB
    rw [hb.rt, Bool.true_and, Bool.and_eq_false_iff, decide_eq_false_iff_not, decide_eq_false_iff_not]
    have l1 := hb.lo; have l2 := hb.hi
    rcases n with n | n
    · left; intro k; have := q_le.2 k; rw [q_zero] at this; grind
    · right; intro k; have := q_le.2 k; rw [q_zero] at this; grind
  have m1 := div_in hr' hz d a1 b1
  have m2 := div_in hr' hz d a1 b2
  have m3 := div_in hr' hz d a2 b1
  have m4 := div_in hr' hz d a2 b2
  obtain ⟨r, e, hr, c1, c2⟩ := all_has (div_four (a := a) hb.rt z) m1.lo m2.lo m3.lo m4.lo m1.hi m2.hi m3.hi m4.hi
  refine ⟨r, ?_, ⟨c1, c2, hr.rt⟩⟩
  unfold cDiv
  rw [z, cond_false, e, ask_mk (by rw [ha.rt, hb.rt]; rfl) rfl]
theorem sqr_inn {a a' : I} (ha : Inn a a') (h : (cSqr dMul 0 a').2 = 0) : ∃ r, cSqr dMul 0 a = (r, 0) ∧ Inn r (cSqr dMul 0 a').1 := by
  obtain ⟨_, hr, _, d, u⟩ := sqr_0 h
  generalize (cSqr dMul 0 a').1 = r' at *
  obtain ⟨b1, b2, _⟩ := bare_gen ha.rt
  obtain ⟨e1, e2⟩ := bare_ends ha.rt
  have key : ∀ {x : Rat}, (Mem a x ∨ Mem a (-x)) → Mem r' (x * x) := by
    intro x hx
    have up : ∀ {y : Rat}, Mem a y → Mem a' y := fun hy => ⟨by have := hy.lo; have := ha.lo; grind, by have := hy.hi; have := ha.hi; grind⟩
    rcases hx with hx | hx
    · exact sqr_in' hr d u (up hx)
    · have := sqr_in' hr d u (up hx)
      rwa [show -x * -x = x * x by grind] at this
  have p := (dMul_RD (bareI a).lo (bareI a).lo).has (c := r'.lo) (key e1).lo
  have q := (dMul_RU (bareI a).hi (bareI a).hi).has (c := r'.hi) (key e2).hi
  refine ⟨⟨(dMul false (bareI a).lo (bareI a).lo).1, (dMul true (bareI a).hi (bareI a).hi).1⟩, ?_, ⟨p.2, q.2, ?_⟩⟩
  · unfold cSqr
    rw [ends_mk p.1 q.1, ask_mk ha.rt rfl]
  · exact dn_up ((dMul_RD _ _).ok p.1) ((dMul_RU _ _).ok q.1) (sq_bd (by grind) b2)
theorem sqrt_inn {a a' : I} (ha : Inn a a') (h : (cSqrt qSqrt 0 a').2 = 0) : ∃ r, cSqrt qSqrt 0 a = (r, 0) ∧ Inn r (cSqrt qSqrt 0 a').1 := by
  obtain ⟨_, _, h0, _, d, u⟩ := sqrt_0 h
  generalize (cSqrt qSqrt 0 a').1 = r' at *
  have l1 := ha.lo; have l2 := ha.hi; have l3 := rt_le ha.rt
  obtain ⟨x, e1, s1⟩ := (qSqrt_gen (a := a.lo) (by grind)).1
  obtain ⟨y, e2, s2⟩ := (qSqrt_gen (a := a.hi) (by grind)).2
  have dl := d.le; have ug := u.ge
  refine ⟨⟨x, y⟩, ?_, ⟨s1.top _ d.nn (by grind), s2.bot _ u.nn (by grind), sq_rt (r := ⟨x, y⟩) ha.rt (by grind) s1 s2⟩⟩
  unfold cSqrt
  rw [e1, e2, ends_mk rfl rfl, ask_mk ha.rt rfl]
theorem max_inn {a a' b b' : I} (ha : Inn a a') (hb : Inn b b') : Inn (maxI a b) (maxI a' b') := by
  have h1 := q_le.1 ha.lo; have h2 := q_le.1 ha.hi; have h3 := q_le.1 hb.lo; have h4 := q_le.1 hb.hi
  refine ⟨q_le.2 ?_, q_le.2 ?_, maxI_rt ha.rt hb.rt⟩
  · show (mxF a'.lo b'.lo).k ≤ (mxF a.lo b.lo).k
    rw [mxF_k, mxF_k]; omega
  · show (mxF a.hi b.hi).k ≤ (mxF a'.hi b'.hi).k
    rw [mxF_k, mxF_k]; omega
theorem turn_inn {a a' : I} (ha : Inn a a') : Inn (turnI a) (turnI a') := by
  have h1 := ha.lo; have h2 := ha.hi
  refine ⟨?_, ?_, turnI_rt ha.rt⟩
  · show a'.hi.neg.q ≤ a.hi.neg.q
    rw [q_neg, q_neg]; grind
  · show a.lo.neg.q ≤ a'.lo.neg.q
    rw [q_neg, q_neg]; grind
theorem kept_inn {a a' : I} (l h : F) (ha : Inn a a') : Inn (keptI a l h) (keptI a' l h) := by
  have h1 := q_le.1 ha.lo; have h2 := q_le.1 ha.hi
  obtain ⟨e1, e2⟩ := keptI_k a l h
  obtain ⟨e3, e4⟩ := keptI_k a' l h
  exact ⟨q_le.2 (by rw [e1, e3]; omega), q_le.2 (by rw [e2, e4]; omega), keptI_rt ha.rt⟩
theorem hid_inn {a a' : I} (ha : Inn a a') : Inn (hidI a) (hidI a') := by
  have h1 := q_le.1 ha.lo; have h2 := q_le.1 ha.hi
  obtain ⟨e1, e2⟩ := hidI_k a
  obtain ⟨e3, e4⟩ := hidI_k a'
  exact ⟨q_le.2 (by rw [e1, e3]; omega), q_le.2 (by rw [e2, e4]; omega), hidI_rt ha.rt⟩
theorem step_inn {o : Op} {v v' : List I} (hm : MonoO o) (hv : ∀ i, Inn (gt v i) (gt v' i)) (h : (stepK KkR o v' 0).2 = 0) : ∃ r, stepK KkR o v 0 = (r, 0) ∧ Inn r (stepK KkR o v' 0).1 := by
  cases o with
  | add i j => exact add_inn (hv i) (hv j) h
  | sub i j => exact sub_inn (hv i) (hv j) h
  | mul i j => exact mul_inn (hv i) (hv j) h
  | div i j => exact div_inn (hv i) (hv j) h
  | max i j =>
    obtain ⟨_, _, _, e⟩ := max_0 h
    refine ⟨maxI (gt v i) (gt v j), ask_mk (by rw [(hv i).rt, (hv j).rt]; rfl) rfl, ?_⟩
    show Inn _ (cMax 0 (gt v' i) (gt v' j)).1
    rw [e]; exact max_inn (hv i) (hv j)
  | sqr i => exact sqr_inn (hv i) h
  | sqrt i => exact sqrt_inn (hv i) h
  | neg i =>
    obtain ⟨_, _, e⟩ := neg_0 h
    refine ⟨turnI (gt v i), ask_mk (hv i).rt rfl, ?_⟩
    show Inn _ (cNeg 0 (gt v' i)).1
    rw [e]; exact turn_inn (hv i)
  | num x => exact ⟨⟨x, x⟩, rfl, Inn.refl (decide_eq_true (Int.le_refl _))⟩
  | lit a => exact ⟨a, rfl, Inn.refl hm⟩
  | fn f i => exact ⟨_, rfl, hm _ _ (hv i)⟩
  | fn2 f i j => exact ⟨_, rfl, hm _ _ _ _ (hv i) (hv j)⟩
  | kept l u i => exact ⟨_, rfl, kept_inn l u (hv i)⟩
  | wi i => exact hm.elim
  | hid i => exact ⟨_, rfl, hid_inn (hv i)⟩
theorem gt_cons {r : I} {v : List I} : ∀ i, gt (r :: v) i = match i with | 0 => r | j + 1 => gt v j
  | 0 => rfl
  | _ + 1 => rfl
theorem eval_inn : ∀ {l : List Op} {v v' : List I}, (∀ o ∈ l, MonoO o) → (∀ i, Inn (gt v i) (gt v' i)) → (evalK KkR l v' 0).2 = 0 → (evalK KkR l v 0).2 = 0 ∧ ∀ i, Inn (gt (evalK KkR l v 0).1 i) (gt (evalK KkR l v' 0).1 i)
  | [], _, _, _, hv, _ => ⟨rfl, hv⟩
  | o :: l, v, v', hm, hv, h => by
    have h1 : (stepK KkR o v' 0).2 = 0 := by
      apply Decidable.byContradiction
      intro k
      have := eval_kept (l := l) (v := (stepK KkR o v' 0).1 :: v') k
      have h' : (evalK KkR l ((stepK KkR o v' 0).1 :: v') (stepK KkR o v' 0).2).2 = 0 := h
      rw [this] at h'
      exact k h'
    obtain ⟨r, e, hr⟩ := step_inn (hm o (by simp)) hv h1
    have h' : (evalK KkR l ((stepK KkR o v' 0).1 :: v') (stepK KkR o v' 0).2).2 = 0 := h
    rw [h1] at h'
    have ih := eval_inn (l := l) (v := r :: v) (fun o ho => hm o (by simp [ho])) (fun i => by
      cases i with
      | zero => exact hr
      | succ i => exact hv i) h'
    rw [eval_cons e, eval_cons (show stepK KkR o v' 0 = ((stepK KkR o v' 0).1, 0) from Prod.ext rfl h1)]
    exact ih
/-! which are not below 0: looked up ahead -/
def nnS (o : Op) (s : List Bool) : Bool :=
  match o with
  | .add i j | .mul i j | .div i j => s.getD i false && s.getD j false
  | .max i j => s.getD i false || s.getD j false
  | .sqr _ | .sqrt _ | .hid _ => true
  | .num x => decide (F.zero.k ≤ x.k)
  | .lit a => decide (F.zero.k ≤ a.lo.k)
  | .kept l h _ => decide (F.zero.k ≤ l.k) && decide (F.zero.k ≤ h.k)
  | _ => false
def okS (o : Op) (s : List Bool) : Bool :=
  match o with
  | .sqrt i => s.getD i false
  | .lit a => rt a
  | .fn _ _ | .fn2 _ _ _ => false
  | _ => true
def chk : List Op → List Bool → Bool
  | [], _ => true
  | o :: l, s => okS o s && chk l (nnS o s :: s)
def Flags (s : List Bool) (v : List I) : Prop := ∀ i, s.getD i false = true → 0 ≤ (gt v i).lo.q
theorem nn_q {x : F} (h : F.zero.k ≤ x.k) : 0 ≤ x.q := by rw [← q_zero]; exact q_le.2 h
theorem dn_nn {r : F} {v : Rat} (h : Dn r v) (hv : 0 ≤ v) : 0 ≤ r.q := by rw [← q_zero]; exact h.top F.zero (by rw [q_zero]; exact hv)
theorem fact_nn {o : Op} {s : List Bool} {v : List I} {r : I} (hv : ∀ a ∈ v, rt a = true) (hf : Flags s v) (h : Fact o v r) (hn : nnS o s = true) : 0 ≤ r.lo.q := by
  have g := gt_rt hv
  cases o with
  | add i j =>
    obtain ⟨a, b⟩ := both hn
    have := hf i a; have := hf j b
    exact dn_nn h.1 (by grind)
  | sub i j => exact absurd hn (by simp [nnS])
  | mul i j =>
    obtain ⟨a, b⟩ := both hn
    have a1 := hf i a; have b1 := hf j b
    have a2 := rt_le (g i); have b2 := rt_le (g j)
    have h' : AllR r _ _ _ _ := h
    rw [← q_zero]
    refine h'.top ?_ ?_ ?_ ?_ <;> (rw [q_zero]; exact Rat.mul_nonneg (by grind) (by grind))
  | div i j =>
    obtain ⟨a, b⟩ := both hn
    have a1 := hf i a; have b1 := hf j b
    have a2 := rt_le (g i); have b2 := rt_le (g j)
    have h' : AllR r _ _ _ _ := h.2
    have n := no_zero (g j) h.1
    have dq : ∀ {x y : Rat}, 0 ≤ x → 0 < y → 0 ≤ x / y := fun hx hy => by rw [Rat.div_def]; exact Rat.mul_nonneg hx (Rat.le_of_lt (Rat.inv_pos.2 hy))
    rw [← q_zero]
    refine h'.top ?_ ?_ ?_ ?_ <;> (rw [q_zero]; exact dq (by grind) (by grind))
  | max i j =>
    rw [show r = _ from h]
    show 0 ≤ (mxF _ _).q
    have m := mxF_q (gt v i).lo (gt v j).lo
    rcases Bool.or_eq_true _ _ ▸ hn with a | a
    · have := hf i a; grind
    · have := hf j a; grind
  | sqr i =>
    obtain ⟨b1, _, _⟩ := bare_gen (g i)
    exact dn_nn h.1 (Rat.mul_nonneg b1 b1)
  | sqrt i => exact h.2.1.nn
  | neg i => exact absurd hn (by simp [nnS])
  | num x => rw [show r = _ from h]; exact nn_q (of_decide_eq_true hn)
  | lit a => rw [show r = _ from h]; exact nn_q (of_decide_eq_true hn)
  | fn f i => exact absurd hn (by simp [nnS])
  | fn2 f i j => exact absurd hn (by simp [nnS])
  | kept l u i =>
    rw [show r = _ from h]
    obtain ⟨a, b⟩ := both hn
    have a' := of_decide_eq_true a; have b' := of_decide_eq_true b
    exact nn_q (by rw [(keptI_k _ l u).1]; omega)
  | wi i => exact absurd hn (by simp [nnS])
  | hid i =>
    rw [show r = _ from h]
    have z : (toF 0).k = F.zero.k := by decide +kernel
    exact nn_q (by rw [(hidI_k _).1]; omega)
theorem chk_cond : ∀ {l : List Op} {s : List Bool} {v : List I}, chk l s = true → Flags s v → (∀ a ∈ v, rt a = true) → CondE l v
  | [], _, _, _, _, _ => trivial
  | o :: l, s, v, hc, hf, hv => by
    obtain ⟨h1, h2⟩ := both hc
    refine ⟨?_, fun r fr hr => chk_cond (l := l) h2 (fun i hi => ?_) fun a ha => ?_⟩
    · cases o with
      | sqrt i => exact hf i h1
      | lit a => exact h1
      | fn f i => exact absurd h1 (by simp [okS])
      | fn2 f i j => exact absurd h1 (by simp [okS])
      | _ => trivial
    · cases i with
      | zero => exact fact_nn hv hf fr hi
      | succ i => exact hf i hi
    · rcases List.mem_cons.1 ha with rfl | ha
      · exact hr
      · exact hv a ha
theorem eval_er' {l : List Op} {s : List Bool} {v : List I} (hc : chk l s = true) (hf : Flags s v) (hv : ∀ a ∈ v, rt a = true) : Er (evalK KkR l v 0).2 := eval_er hv (chk_cond hc hf hv)
end Bu
