/- Straight lines: programs of interval arithmetic, row by row: what holds where there is no error, which errors there may be, what parts of intervals make of them. Numbers by parts of 2^32 between two others, plain. Package burnishlow by the reckoner: numbers by parts. Packages vec, ggx, vndf, plain: straight lines. Packages vec, ggx, vndf by the reckoner. Packages ggx, vndf, vec, plain: what the functions tell. Packages vec, ggx, vndf by the reckoner: Unit, D, G1, Facing, Draw, Density. micro.look as a known function of memory. Within boxes: a line of interval arithmetic that has no error over wide intervals has none over parts of them. -/
import Derived.Test.YtlhlcefkmhhmjaaGreatZ19
import Derived.Test.YtlhlcefkmhhmjaaGreatZ17
import Derived.Test.YtlhlcefkmhhmjaaGreatZ15
namespace Bu
set_option linter.all false
open Rx Go

structure Kk where
  add : Int → I → I → I × Int
  sub : Int → I → I → I × Int
  mul : Int → I → I → I × Int
  div : Int → I → I → I × Int
  max : Int → I → I → I × Int
  sqr : Int → I → I × Int
  sqrt : Int → I → I × Int
  neg : Int → I → I × Int
  num : Int → F → I × Int
def KkR : Kk := ⟨KTR.add, KTR.sub, KTR.mul, KTR.div, cMax, KTR.sqr, cSqrt qSqrt, KTR.neg, KTR.num⟩
inductive Op where
  | add (i j : Nat)
  | sub (i j : Nat)
  | mul (i j : Nat)
  | div (i j : Nat)
  | max (i j : Nat)
  | sqr (i : Nat)
  | sqrt (i : Nat)
  | neg (i : Nat)
  | num (x : F)
  | lit (a : I)
  | fn (f : I → I) (i : Nat)
  | fn2 (f : I → I → I) (i j : Nat)
  | kept (l h : F) (i : Nat)
  | wi (i : Nat)
  | hid (i : Nat)
def hidI (a : I) : I := ⟨mxF a.lo (toF 0), mxF a.hi (toF 0)⟩
def gt (v : List I) (i : Nat) : I := v.getD i I.zero
def stepK (K : Kk) (o : Op) (v : List I) (e : Int) : I × Int :=
  match o with
  | .add i j => K.add e (gt v i) (gt v j)
  | .sub i j => K.sub e (gt v i) (gt v j)
  | .mul i j => K.mul e (gt v i) (gt v j)
  | .div i j => K.div e (gt v i) (gt v j)
  | .max i j => K.max e (gt v i) (gt v j)
  | .sqr i => K.sqr e (gt v i)
  | .sqrt i => K.sqrt e (gt v i)
  | .neg i => K.neg e (gt v i)
  | .num x => K.num e x
  | .lit a => (a, e)
  | .fn f i => (f (gt v i), e)
  | .fn2 f i j => (f (gt v i) (gt v j), e)
  | .kept l h i => (keptI (gt v i) l h, e)
  | .wi i => (withI (gt v i), e)
  | .hid i => (hidI (gt v i), e)
def evalK (K : Kk) : List Op → List I → Int → List I × Int
  | [], v, e => (v, e)
  | o :: l, v, e => evalK K l ((stepK K o v e).1 :: v) (stepK K o v e).2
/-- what a row tells -/
def Fact (o : Op) (v : List I) (r : I) : Prop :=
  match o with
  | .add i j => Dn r.lo ((gt v i).lo.q + (gt v j).lo.q) ∧ Up r.hi ((gt v i).hi.q + (gt v j).hi.q)
  | .sub i j => Dn r.lo ((gt v i).lo.q - (gt v j).hi.q) ∧ Up r.hi ((gt v i).hi.q - (gt v j).lo.q)
  | .mul i j => AllR r ((gt v i).lo.q * (gt v j).lo.q) ((gt v i).lo.q * (gt v j).hi.q) ((gt v i).hi.q * (gt v j).lo.q) ((gt v i).hi.q * (gt v j).hi.q)
  | .div i j => hasB (gt v j) F.zero = false ∧ AllR r ((gt v i).lo.q / (gt v j).lo.q) ((gt v i).lo.q / (gt v j).hi.q) ((gt v i).hi.q / (gt v j).lo.q) ((gt v i).hi.q / (gt v j).hi.q)
  | .max i j => r = maxI (gt v i) (gt v j)
  | .sqr i => Dn r.lo ((bareI (gt v i)).lo.q * (bareI (gt v i)).lo.q) ∧ Up r.hi ((bareI (gt v i)).hi.q * (bareI (gt v i)).hi.q)
  | .sqrt i => 0 ≤ (gt v i).lo.q ∧ SqD r.lo (gt v i).lo ∧ SqU r.hi (gt v i).hi
  | .neg i => r = turnI (gt v i)
  | .num x => r = ⟨x, x⟩
  | .lit a => r = a
  | .fn f i => r = f (gt v i)
  | .fn2 f i j => r = f (gt v i) (gt v j)
  | .kept l h i => r = keptI (gt v i) l h
  | .wi i => r = withI (gt v i)
  | .hid i => r = hidI (gt v i)
/-- a row's arguments are intervals -/
def ArgsRt (o : Op) (v : List I) : Prop :=
  match o with
  | .add i j | .sub i j | .mul i j | .div i j | .max i j => rt (gt v i) = true ∧ rt (gt v j) = true
  | .sqr i | .sqrt i | .neg i => rt (gt v i) = true
  | _ => True
theorem step_fact {o : Op} {v : List I} {e : Int} (h : (stepK KkR o v e).2 = 0) : e = 0 ∧ ArgsRt o v ∧ Fact o v (stepK KkR o v e).1 := by
  cases o with
  | add i j => obtain ⟨a, b, c, _, d⟩ := add_0 h; exact ⟨a, ⟨b, c⟩, d⟩
  | sub i j => obtain ⟨a, b, c, _, d⟩ := sub_0 h; exact ⟨a, ⟨b, c⟩, d⟩
  | mul i j => obtain ⟨a, b, c, _, d⟩ := mul_0 h; exact ⟨a, ⟨b, c⟩, d⟩
  | div i j => obtain ⟨a, b, c, d, _, f⟩ := div_0 h; exact ⟨a, ⟨b, c⟩, d, f⟩
  | max i j => obtain ⟨a, b, c, d⟩ := max_0 h; exact ⟨a, ⟨b, c⟩, congrArg Prod.fst d⟩
  | sqr i => obtain ⟨a, b, _, d⟩ := sqr_0 h; exact ⟨a, b, d⟩
  | sqrt i => obtain ⟨a, b, c, _, d⟩ := sqrt_0 h; exact ⟨a, b, c, d⟩
  | neg i => obtain ⟨a, b, d⟩ := neg_0 h; exact ⟨a, b, congrArg Prod.fst d⟩
  | num x => obtain ⟨a, d⟩ := num_0 h; exact ⟨a, trivial, congrArg Prod.fst d⟩
  | lit a => exact ⟨h, trivial, rfl⟩
  | fn f i => exact ⟨h, trivial, rfl⟩
  | fn2 f i j => exact ⟨h, trivial, rfl⟩
  | kept l u i => exact ⟨h, trivial, rfl⟩
  | wi i => exact ⟨h, trivial, rfl⟩
  | hid i => exact ⟨h, trivial, rfl⟩
theorem step_kept {o : Op} {v : List I} {e : Int} (he : e ≠ 0) : (stepK KkR o v e).2 = e := by
  cases o with
  | add i j => exact congrArg Prod.snd (ask_kept he _ _)
  | sub i j => exact congrArg Prod.snd (ask_kept he _ _)
  | mul i j => exact congrArg Prod.snd (ask_kept he _ _)
  | div i j => exact congrArg Prod.snd (ask_kept he _ _)
  | max i j => exact congrArg Prod.snd (ask_kept he _ _)
  | sqr i => exact congrArg Prod.snd (ask_kept he _ _)
  | sqrt i => exact congrArg Prod.snd (ask_kept he _ _)
  | neg i => exact congrArg Prod.snd (ask_kept he _ _)
  | num x => exact congrArg Prod.snd (ask_kept he _ _)
  | lit a => rfl
  | fn f i => rfl
  | fn2 f i j => rfl
  | kept l u i => rfl
  | wi i => rfl
  | hid i => rfl
theorem eval_kept : ∀ {l : List Op} {v : List I} {e : Int}, e ≠ 0 → (evalK KkR l v e).2 = e
  | [], _, _, _ => rfl
  | o :: l, v, e, he => by
    show (evalK KkR l ((stepK KkR o v e).1 :: v) (stepK KkR o v e).2).2 = e
    rw [step_kept he]; exact eval_kept he
/-- all rows tell what they do -/
def Chain : List Op → List I → List I → Prop
  | [], v, u => u = v
  | o :: l, v, u => ∃ r, Fact o v r ∧ Chain l (r :: v) u
theorem eval_chain : ∀ {l : List Op} {v : List I} {e : Int}, (evalK KkR l v e).2 = 0 → e = 0 ∧ Chain l v (evalK KkR l v e).1
  | [], _, _, h => ⟨h, rfl⟩
  | o :: l, v, e, h => by
    obtain ⟨h1, h2⟩ := eval_chain (l := l) h
    obtain ⟨g1, _, g2⟩ := step_fact h1
    exact ⟨g1, _, g2, h2⟩
theorem eval_cons {K : Kk} {o : Op} {l : List Op} {v : List I} {r : I} {e e' : Int} (h : stepK K o v e = (r, e')) : evalK K (o :: l) v e = evalK K l (r :: v) e' := by
  show evalK K l ((stepK K o v e).1 :: v) (stepK K o v e).2 = _
  rw [h]
theorem dn_up {l h : F} {v w : Rat} (a : Dn l v) (b : Up h w) (c : v ≤ w) : rt ⟨l, h⟩ = true := rt_q (by have := a.le; have := b.ge; show l.q ≤ h.q; grind)
theorem AllR.rt {r : I} {p q s t : Rat} (h : AllR r p q s t) : rt r = true := rt_q (Rat.le_trans h.lo.1 h.hi.1)
theorem maxI_rt {a b : I} (ha : rt a = true) (hb : rt b = true) : rt (maxI a b) = true := by
  have h1 := of_decide_eq_true ha; have h2 := of_decide_eq_true hb
  refine decide_eq_true ?_
  show (mxF a.lo b.lo).k ≤ (mxF a.hi b.hi).k
  rw [mxF_k, mxF_k]; omega
theorem turnI_rt {a : I} (ha : rt a = true) : rt (turnI a) = true := by
  have h1 := of_decide_eq_true ha
  refine decide_eq_true ?_
  show -a.hi.k ≤ -a.lo.k
  omega
theorem sq_rt {r a : I} (ha : rt a = true) (h0 : 0 ≤ a.lo.q) (h1 : SqD r.lo a.lo) (h2 : SqU r.hi a.hi) : rt r = true := by
  have l := rt_le ha
  have := h1.le; have := h2.ge
  exact rt_q (sq_le' h1.nn h2.nn (by grind))
theorem keptI_k (a : I) (l h : F) : (keptI a l h).lo.k = min (max a.lo.k l.k) h.k ∧ (keptI a l h).hi.k = min (max a.hi.k l.k) h.k := by
  unfold keptI
  simp only [mnF_k, mxF_k]
  exact ⟨trivial, trivial⟩
theorem keptI_rt {a : I} {l h : F} (ha : rt a = true) : rt (keptI a l h) = true := by
  have h1 := of_decide_eq_true ha
  obtain ⟨e1, e2⟩ := keptI_k a l h
  refine decide_eq_true ?_
  rw [e1, e2]; omega
theorem hidI_k (a : I) : (hidI a).lo.k = max a.lo.k (toF 0).k ∧ (hidI a).hi.k = max a.hi.k (toF 0).k := by
  unfold hidI
  simp only [mxF_k]
  exact ⟨trivial, trivial⟩
theorem hidI_rt {a : I} (ha : rt a = true) : rt (hidI a) = true := by
  have h1 := of_decide_eq_true ha
  obtain ⟨e1, e2⟩ := hidI_k a
  refine decide_eq_true ?_
  rw [e1, e2]; omega
theorem gt_rt {v : List I} (h : ∀ a ∈ v, rt a = true) (i : Nat) : rt (gt v i) = true := by
  unfold gt
  rw [List.getD_eq_getElem?_getD]
  cases k : v[i]? with
  | none => decide
  | some a => exact h a (List.mem_of_getElem? k)
structure Inn (a b : I) : Prop where
  lo : b.lo.q ≤ a.lo.q
  hi : a.hi.q ≤ b.hi.q
  rt : rt a = true
theorem Inn.mem {a b : I} (h : Inn a b) : Mem b a.lo.q ∧ Mem b a.hi.q := by
  have := rt_le h.rt; have := h.lo; have := h.hi
  exact ⟨⟨h.lo, by grind⟩, ⟨by grind, h.hi⟩⟩
theorem Inn.refl {a : I} (h : Bu.rt a = true) : Inn a a := ⟨Rat.le_refl, Rat.le_refl, h⟩
def MonoO : Op → Prop
  | .lit a => rt a = true
  | .fn f _ => ∀ a b, Inn a b → Inn (f a) (f b)
  | .fn2 f _ _ => ∀ a b c d, Inn a b → Inn c d → Inn (f a c) (f b d)
  | .wi _ => False
  | _ => True
theorem ends_mk {p q : F × Int} (h : p.2 = 0) (k : q.2 = 0) : endsI p q = (⟨p.1, q.1⟩, 0) := by
  unfold endsI; rw [h, k]; rfl
theorem ask_mk {g : Bool} {r : I × Int} (hg : g = true) (h : r.2 = 0) : askI 0 g r = (r.1, 0) := ask_ok hg h
theorem add_inn {a a' b b' : I} (ha : Inn a a') (hb : Inn b b') (h : (cAdd dAdd 0 a' b').2 = 0) : ∃ r, cAdd dAdd 0 a b = (r, 0) ∧ Inn r (cAdd dAdd 0 a' b').1 := by
  obtain ⟨_, _, _, _, d, u⟩ := add_0 h
  generalize (cAdd dAdd 0 a' b').1 = r' at *
  have := d.le; have := u.ge; have := ha.lo; have := ha.hi; have := hb.lo; have := hb.hi
  have p := (dAdd_RD a.lo b.lo).has (c := r'.lo) (by grind)
  have q := (dAdd_RU a.hi b.hi).has (c := r'.hi) (by grind)
  refine ⟨⟨(dAdd false a.lo b.lo).1, (dAdd true a.hi b.hi).1⟩, ?_, ⟨p.2, q.2, ?_⟩⟩
  · unfold cAdd
    rw [ends_mk p.1 q.1, ask_mk (by rw [ha.rt, hb.rt]; rfl) rfl]
  · have := rt_le ha.rt; have := rt_le hb.rt
    exact dn_up ((dAdd_RD a.lo b.lo).ok p.1) ((dAdd_RU a.hi b.hi).ok q.1) (by grind)
theorem sub_inn {a a' b b' : I} (ha : Inn a a') (hb : Inn b b') (h : (cSub dSub 0 a' b').2 = 0) : ∃ r, cSub dSub 0 a b = (r, 0) ∧ Inn r (cSub dSub 0 a' b').1 := by
  obtain ⟨_, _, _, _, d, u⟩ := sub_0 h
  generalize (cSub dSub 0 a' b').1 = r' at *
  have := d.le; have := u.ge; have := ha.lo; have := ha.hi; have := hb.lo; have := hb.hi
  have p := (dSub_RD a.lo b.hi).has (c := r'.lo) (by grind)
  have q := (dSub_RU a.hi b.lo).has (c := r'.hi) (by grind)
  refine ⟨⟨(dSub false a.lo b.hi).1, (dSub true a.hi b.lo).1⟩, ?_, ⟨p.2, q.2, ?_⟩⟩
  · unfold cSub
    rw [ends_mk p.1 q.1, ask_mk (by rw [ha.rt, hb.rt]; rfl) rfl]
  · have := rt_le ha.rt; have := rt_le hb.rt
    exact dn_up ((dSub_RD a.lo b.hi).ok p.1) ((dSub_RU a.hi b.lo).ok q.1) (by grind)
theorem mul_inn {a a' b b' : I} (ha : Inn a a') (hb : Inn b b') (h : (cMul dMul 0 a' b').2 = 0) : ∃ r, cMul dMul 0 a b = (r, 0) ∧ Inn r (cMul dMul 0 a' b').1 := by
  obtain ⟨_, _, _, _, d⟩ := mul_0 h
  generalize (cMul dMul 0 a' b').1 = r' at *
  obtain ⟨a1, a2⟩ := ha.mem
  obtain ⟨b1, b2⟩ := hb.mem
  have m1 := mul_mem d a1 b1
  have m2 := mul_mem d a1 b2
  have m3 := mul_mem d a2 b1
  have m4 := mul_mem d a2 b2
  obtain ⟨r, e, hr, c1, c2⟩ := all_has (mul_four a b) m1.lo m2.lo m3.lo m4.lo m1.hi m2.hi m3.hi m4.hi
  refine ⟨r, ?_, ⟨c1, c2, hr.rt⟩⟩
  unfold cMul
  rw [e, ask_mk (by rw [ha.rt, hb.rt]; rfl) rfl]
theorem div_inn {a a' b b' : I} (ha : Inn a a') (hb : Inn b b') (h : (cDiv pDiv 0 a' b').2 = 0) : ∃ r, cDiv pDiv 0 a b = (r, 0) ∧ Inn r (cDiv pDiv 0 a' b').1 := by
  obtain ⟨_, _, hr', hz, _, d⟩ := div_0 h
  generalize (cDiv pDiv 0 a' b').1 = r' at *
  obtain ⟨a1, a2⟩ := ha.mem
  obtain ⟨b1, b2⟩ := hb.mem
  have n := no_zero hr' hz
  have z : hasB b F.zero = false := by
    unfold hasB
    rw [hb.rt, Bool.true_and, Bool.and_eq_false_iff, decide_eq_false_iff_not, decide_eq_false_iff_not]
    have l1 := hb.lo; have l2 := hb.hi
    rcases n with n | n
    · left; intro k; have := q_le.2 k; rw [q_zero] at this; grind
    · right; intro k; have := q_le.2 k; rw [q_zero] at this; grind
  have m1 := div_in hr' hz d a1 b1
  have m2 := div_in hr' hz d a1 b2
  have m3 := div_in hr' hz d a2 b1
  have m4 := div_in hr' hz d a2 b2
  obtain ⟨r, e, hr, c1, c2⟩ := all_has (div_four (a := a) hb.rt z) m1.lo m2.lo m3.lo m4.lo m1.hi m2.hi m3.hi m4.hi
  refine ⟨r, ?_, ⟨c1, c2, hr.rt⟩⟩
  unfold cDiv
  rw [z, cond_false, e, ask_mk (by rw [ha.rt, hb.rt]; rfl) rfl]
theorem sqr_inn {a a' : I} (ha : Inn a a') (h : (cSqr dMul 0 a').2 = 0) : ∃ r, cSqr dMul 0 a = (r, 0) ∧ Inn r (cSqr dMul 0 a').1 := by
  obtain ⟨_, hr, _, d, u⟩ := sqr_0 h
  generalize (cSqr dMul 0 a').1 = r' at *
  obtain ⟨b1, b2, _⟩ := bare_gen ha.rt
  obtain ⟨e1, e2⟩ := bare_ends ha.rt
  have key : ∀ {x : Rat}, (Mem a x ∨ Mem a (-x)) → Mem r' (x * x) := by
    intro x hx
    have up : ∀ {y : Rat}, Mem a y → Mem a' y := fun hy => ⟨by have := hy.lo; have := ha.lo; grind, by have := hy.hi; have := ha.hi; grind⟩
    rcases hx with hx | hx
    · exact sqr_in' hr d u (up hx)
    · have := sqr_in' hr d u (up hx)
      rwa [show -x * -x = x * x by grind] at this
  have p := (dMul_RD (bareI a).lo (bareI a).lo).has (c := r'.lo) (key e1).lo
  have q := (dMul_RU (bareI a).hi (bareI a).hi).has (c := r'.hi) (key e2).hi
  refine ⟨⟨(dMul false (bareI a).lo (bareI a).lo).1, (dMul true (bareI a).hi (bareI a).hi).1⟩, ?_, ⟨p.2, q.2, ?_⟩⟩
  · unfold cSqr
    rw [ends_mk p.1 q.1, ask_mk ha.rt rfl]
  · exact dn_up ((dMul_RD _ _).ok p.1) ((dMul_RU _ _).ok q.1) (sq_bd (by grind) b2)
theorem sqrt_inn {a a' : I} (ha : Inn a a') (h : (cSqrt qSqrt 0 a').2 = 0) : ∃ r, cSqrt qSqrt 0 a = (r, 0) ∧ Inn r (cSqrt qSqrt 0 a').1 := by
  obtain ⟨_, _, h0, _, d, u⟩ := sqrt_0 h
  generalize (cSqrt qSqrt 0 a').1 = r' at *
  have l1 := ha.lo; have l2 := ha.hi; have l3 := rt_le ha.rt
  obtain ⟨x, e1, s1⟩ := (qSqrt_gen (a := a.lo) (by grind)).1
  obtain ⟨y, e2, s2⟩ := (qSqrt_gen (a := a.hi) (by grind)).2
  have dl := d.le; have ug := u.ge
  refine ⟨⟨x, y⟩, ?_, ⟨s1.top _ d.nn (by grind), s2.bot _ u.nn (by grind), sq_rt (r := ⟨x, y⟩) ha.rt (by grind) s1 s2⟩⟩
  unfold cSqrt
  rw [e1, e2, ends_mk rfl rfl, ask_mk ha.rt rfl]
theorem max_inn {a a' b b' : I} (ha : Inn a a') (hb : Inn b b') : Inn (maxI a b) (maxI a' b') := by
  have h1 := q_le.1 ha.lo; have h2 := q_le.1 ha.hi; have h3 := q_le.1 hb.lo; have h4 := q_le.1 hb.hi
  refine ⟨q_le.2 ?_, q_le.2 ?_, maxI_rt ha.rt hb.rt⟩
  · show (mxF a'.lo b'.lo).k ≤ (mxF a.lo b.lo).k
    rw [mxF_k, mxF_k]; omega
  · show (mxF a.hi b.hi).k ≤ (mxF a'.hi b'.hi).k
    rw [mxF_k, mxF_k]; omega
theorem turn_inn {a a' : I} (ha : Inn a a') : Inn (turnI a) (turnI a') := by
  have h1 := ha.lo; have h2 := ha.hi
  refine ⟨?_, ?_, turnI_rt ha.rt⟩
  · show a'.hi.neg.q ≤ a.hi.neg.q
    rw [q_neg, q_neg]; grind
  · show a.lo.neg.q ≤ a'.lo.neg.q
    rw [q_neg, q_neg]; grind
theorem kept_inn {a a' : I} (l h : F) (ha : Inn a a') : Inn (keptI a l h) (keptI a' l h) := by
  have h1 := q_le.1 ha.lo; have h2 := q_le.1 ha.hi
  obtain ⟨e1, e2⟩ := keptI_k a l h
  obtain ⟨e3, e4⟩ := keptI_k a' l h
  exact ⟨q_le.2 (by rw [e1, e3]; omega), q_le.2 (by rw [e2, e4]; omega), keptI_rt ha.rt⟩
theorem hid_inn {a a' : I} (ha : Inn a a') : Inn (hidI a) (hidI a') := by
  have h1 := q_le.1 ha.lo; have h2 := q_le.1 ha.hi
  obtain ⟨e1, e2⟩ := hidI_k a
  obtain ⟨e3, e4⟩ := hidI_k a'
  exact ⟨q_le.2 (by rw [e1, e3]; omega), q_le.2 (by rw [e2, e4]; omega), hidI_rt ha.rt⟩
theorem step_inn {o : Op} {v v' : List I} (hm : MonoO o) (hv : ∀ i, Inn (gt v i) (gt v' i)) (h : (stepK KkR o v' 0).2 = 0) : ∃ r, stepK KkR o v 0 = (r, 0) ∧ Inn r (stepK KkR o v' 0).1 := by
  cases o with
  | add i j => exact add_inn (hv i) (hv j) h
  | sub i j => exact sub_inn (hv i) (hv j) h
  | mul i j => exact mul_inn (hv i) (hv j) h
  | div i j => exact div_inn (hv i) (hv j) h
  | max i j =>
    obtain ⟨_, _, _, e⟩ := max_0 h
    refine ⟨maxI (gt v i) (gt v j), ask_mk (by rw [(hv i).rt, (hv j).rt]; rfl) rfl, ?_⟩
    show Inn _ (cMax 0 (gt v' i) (gt v' j)).1
    rw [e]; exact max_inn (hv i) (hv j)
  | sqr i => exact sqr_inn (hv i) h
  | sqrt i => exact sqrt_inn (hv i) h
  | neg i =>
    obtain ⟨_, _, e⟩ := neg_0 h
    refine ⟨turnI (gt v i), ask_mk (hv i).rt rfl, ?_⟩
    show Inn _ (cNeg 0 (gt v' i)).1
    rw [e]; exact turn_inn (hv i)
  | num x => exact ⟨⟨x, x⟩, rfl, Inn.refl (decide_eq_true (Int.le_refl _))⟩
  | lit a => exact ⟨a, rfl, Inn.refl hm⟩
  | fn f i => exact ⟨_, rfl, hm _ _ (hv i)⟩
  | fn2 f i j => exact ⟨_, rfl, hm _ _ _ _ (hv i) (hv j)⟩
  | kept l u i => exact ⟨_, rfl, kept_inn l u (hv i)⟩
  | wi i => exact hm.elim
  | hid i => exact ⟨_, rfl, hid_inn (hv i)⟩
theorem eval_inn : ∀ {l : List Op} {v v' : List I}, (∀ o ∈ l, MonoO o) → (∀ i, Inn (gt v i) (gt v' i)) → (evalK KkR l v' 0).2 = 0 → (evalK KkR l v 0).2 = 0 ∧ ∀ i, Inn (gt (evalK KkR l v 0).1 i) (gt (evalK KkR l v' 0).1 i)
  | [], _, _, _, hv, _ => ⟨rfl, hv⟩
  | o :: l, v, v', hm, hv, h => by
    have h1 : (stepK KkR o v' 0).2 = 0 := by
      apply Decidable.byContradiction
      intro k
      have := eval_kept (l := l) (v := (stepK KkR o v' 0).1 :: v') k
      have h' : (evalK KkR l ((stepK KkR o v' 0).1 :: v') (stepK KkR o v' 0).2).2 = 0 := h
      rw [this] at h'
      exact k h'
    obtain ⟨r, e, hr⟩ := step_inn (hm o (by simp)) hv h1
    have h' : (evalK KkR l ((stepK KkR o v' 0).1 :: v') (stepK KkR o v' 0).2).2 = 0 := h
    rw [h1] at h'
    have ih := eval_inn (l := l) (v := r :: v) (fun o ho => hm o (by simp [ho])) (fun i => by
      cases i with
      | zero => exact hr
      | succ i => exact hv i) h'
    rw [eval_cons e, eval_cons (show stepK KkR o v' 0 = ((stepK KkR o v' 0).1, 0) from Prod.ext rfl h1)]
    exact ih
theorem dn_nn {r : F} {v : Rat} (h : Dn r v) (hv : 0 ≤ v) : 0 ≤ r.q := by rw [← q_zero]; exact h.top F.zero (by rw [q_zero]; exact hv)
end Bu
namespace Bu
set_option linter.all false
open Rx Go

def cN32 : F := toF 4751297606873776128
/-- a part of 2^32 - 1 -/
def frT (n : Int) : F := sf (fdv (toF (FloatKind.f64.nearest n)) cN32)
def bwP (a b : F) (n : Int) : F := sf (fmu (sf (fsu b a)) (frT n))
def bwX (a b : F) (n : Int) : F := sf (fad a (bwP a b n))
def bwF (a b : F) (n : Int) : F := bif decide ((bwX a b n).k < a.k) then a else bif decide (b.k < (bwX a b n).k) then b else bwX a b n
def bwO (a b : F) (n : Int) : Obs := so (fad a (bwP a b n)) ++ so (fmu (sf (fsu b a)) (frT n)) ++ so (fdv (toF (FloatKind.f64.nearest n)) cN32) ++ [(rightB (FloatKind.f64.nearest n), true)] ++ so (fsu b a)
def wN32 (n : Int) : Bool := decide (0 ≤ n ∧ n ≤ 4294967295)
/-- two numbers whose difference is a number: D -/
def pairB (a b : F) : Bool := decide (a.k < b.k) && decide (F.zero.k < (sf (fsu b a)).k) && obsB (so (fsu b a)) && decide ((sf (fsu b a)).k ≤ (toF 4625196817309499392).k) && decide ((toF 4625196817309499392).neg.k ≤ a.k) && decide (a.k ≤ (toF 4625196817309499392).k) && decide (fmu (sf (fsu b a)) F.zero = some F.zero.b)
set_option maxRecDepth 100000 in
theorem cN32_z : cN32.z = 4294967295 * (S : Int) ∧ 0 < cN32.k := ⟨of_decide_eq_true (by decide +kernel), of_decide_eq_true (by decide +kernel)⟩
theorem c16_q : (toF 4625196817309499392).q = 16 := q_int (n := 16) (by decide +kernel)
theorem frT_ok {n : Int} (h : wN32 n = true) : ∃ t : F, fdv (toF (FloatKind.f64.nearest n)) cN32 = some t.b ∧ 0 ≤ t.k ∧ t.k ≤ one64.k ∧ rightB (FloatKind.f64.nearest n) = true := by
  have hn := of_decide_eq_true h
  obtain ⟨m, rfl⟩ := Int.eq_ofNat_of_zero_le hn.1
  by_cases hm : m = 0
  · subst hm
    exact ⟨F.zero, by decide +kernel, by decide +kernel, by decide +kernel, by decide +kernel⟩
  · have hP : P = 4503599627370496 := rfl
    have hz := nat_z (m := m) (by omega)
    have hk : 0 < (F.dy m 0).k := by
      have hS := S_pos
      have h2 : 0 < (F.dy m 0).z := by rw [hz]; exact Int.mul_pos (by omega) (by omega)
      have a := z_sign (F.dy m 0)
      have b := z_zero (F.dy m 0)
      omega
    have hle : (F.dy m 0).z ≤ cN32.z := by rw [hz, cN32_z.1]; exact Int.mul_le_mul_of_nonneg_right (by omega) (by have := S_pos; omega)
    obtain ⟨t, e, t0, t1⟩ := div_le1 hk cN32_z.2 hle one64_nv (by rw [T_num]; omega)
    refine ⟨t, ?_, t0, by rw [one64_k]; omega, by rw [near_int (by omega)]; exact right_F _⟩
    unfold fdv
    rw [near_int (by omega), toF_F]; exact e
theorem mul_le1 {x y : F} (hx : 0 < x.k) (hy : 0 < y.k) (h : y.k ≤ one64.k) : ∃ t : F, fmu x y = some t.b ∧ 0 ≤ t.k ∧ t.k ≤ x.k := by
  have hz : y.z ≤ (S : Int) := by
    have h1 := q_le.2 h
    rw [one_q] at h1
    have h2 := F.q_mul y
    have h3 : (y.z : Rat) ≤ ((S : Int) : Rat) := by
      rw [← h2]
      have := Rat.mul_nonneg (show 0 ≤ 1 - y.q by grind) (Rat.le_of_lt S_gt)
      rw [Rat.intCast_natCast]
      generalize (S : Rat) = s at *
      grind
    exact Rat.intCast_le_intCast.1 h3
  have e := mul_F x y (by omega) (by omega)
  rw [decide_eq_false (show ¬ x.k < 0 by omega), decide_eq_false (show ¬ y.k < 0 by omega)] at e
  have hT := x.hk
  have hn : near (x.z.natAbs * y.z.natAbs) S ≤ x.k.natAbs := by
    refine near_le S_pos ?_
    have a := nvk (c := x) (by omega)
    have b := z_sign x; have c := z_sign y
    have : x.z.natAbs = nv x.k.natAbs := by omega
    rw [this]
    exact Nat.mul_le_mul_left _ (by omega)
  rw [Nat.min_eq_left (by omega), show (false ^^ false) = false from rfl, word_F _ _ (by omega) (by simp), if_neg (by decide)] at e
  exact ⟨_, e, by rw [F.of_k (by omega)]; omega, by rw [F.of_k (by omega)]; omega⟩
theorem bw_ok {a b : F} {n : Int} (hp : pairB a b = true) (h : wN32 n = true) : obsB (bwO a b n) = true := by
  unfold pairB at hp
  simp only [Bool.and_eq_true, decide_eq_true_iff] at hp
  obtain ⟨⟨⟨⟨⟨⟨p1, p2⟩, p3⟩, p4⟩, p5⟩, p6⟩, p7⟩ := hp
  obtain ⟨t, e1, t0, t1, hr⟩ := frT_ok h
  obtain ⟨o1, o2⟩ := so_ok e1
  have eT : frT n = t := o2
  have p2' : 0 < (sf (fsu b a)).k := p2
  have hm : ∃ p : F, fmu (sf (fsu b a)) t = some p.b ∧ 0 ≤ p.k ∧ p.k ≤ (sf (fsu b a)).k := by
    by_cases ht : t.k = 0
    · have : t = F.zero := F.ext' ht
      subst this
      exact ⟨F.zero, p7, Int.le_refl _, by show (0 : Int) ≤ _; omega⟩
    · exact mul_le1 p2' (by omega) t1
  obtain ⟨p, e2, q0, q1⟩ := hm
  obtain ⟨o3, o4⟩ := so_ok e2
  have eP : bwP a b n = p := by unfold bwP; rw [eT]; exact o4
  have c := c16_q
  have a1 := q_le.2 p6; have a2 := q_le.2 p5; have a3 := q_le.2 (Int.le_trans q1 p4)
  have a4 : 0 ≤ p.q := by rw [← q_zero]; exact q_le.2 q0
  rw [q_neg] at a2
  obtain ⟨g, hg⟩ := big_ex
  obtain ⟨D, e3, _⟩ := add_nr (x := a) (y := p) (g := g) (by grind) (by grind)
  obtain ⟨o5, _⟩ := so_ok (show fad a p = some D.b from e3)
  unfold bwO
  rw [eP, eT]
  exact ob2 (ob2 (ob2 (ob2 o5 o3) o1) (obsB_yes hr obsB_nil)) p3
theorem bwF_in {a b : F} {n : Int} (h : a.k ≤ b.k) : a.k ≤ (bwF a b n).k ∧ (bwF a b n).k ≤ b.k := by
  unfold bwF
  cases h1 : decide ((bwX a b n).k < a.k)
  · have g1 := of_decide_eq_false h1
    cases h2 : decide (b.k < (bwX a b n).k)
    · have g2 := of_decide_eq_false h2
      simp only [cond_false]; omega
    · exact ⟨h, Int.le_refl _⟩
  · exact ⟨Int.le_refl _, h⟩
def kBw (f : F → F → Int → F) (p : F → F → Bool) (u : Int → Bool) : List SV → Dec → Option (SV × Dec × Obs)
  | [.fl a, .fl b, x], ds => match intS x with
    | some (.u32, n) => some (.fl (f a b n), ds, [(p a b, true), (u n, true)])
    | _ => none
  | _, _ => none
theorem fad_zero (x : F) : fad x (toF 0) = some x.b := by
  unfold fad
  have hz : (toF 0).z = 0 := by decide +kernel
  rw [add_F, hz, Int.add_zero]
  by_cases h : x.k = 0
  · have e : x = F.zero := F.ext' h
    subst e
    rw [if_pos (by rw [F.zero_z])]; rfl
  · have hne : x.z ≠ 0 := fun k => h ((z_zero _).1 k)
    rw [if_neg hne]
    congr 1
    rw [z_natAbs', near_exact (r := x.k.natAbs) (by decide) (by omega)]
    have := x.hk
    rw [show min x.k.natAbs T = x.k.natAbs from by omega, ← word_sign _ h]
    congr 1
    exact decide_eq_decide.2 (z_sign _)
def meetsB (a b : I) : Bool := decide (a.lo.k ≤ b.hi.k) && decide (b.lo.k ≤ a.hi.k)
def pt (x : F) : I := ⟨x, x⟩
def kPt : List SV → Dec → Option (SV × Dec × Obs)
  | [.fl a], ds => some (.agg [.fl a, .fl a], ds, [])
  | _, _ => none
end Bu
namespace Go.Proofs.YtlhlcefkmhhmjaaGreat
set_option linter.all false
open Go.RowKit Bu Rx

theorem bwRun (a b : F) (n : Int) : valR ((run Tryz.prog EG OIM 80).1 23 [.fl a, .fl b, .si .u32 n] [] (some [false, false])) = some (.fl (bwX a b n), some [], (decide (b.k < (bwX a b n).k), false) :: (decide ((bwX a b n).k < a.k), false) :: bwO a b n) := by kernel_rfl
theorem bwRun1 (a b : F) (n : Int) : valR ((run Tryz.prog EG OIM 80).1 23 [.fl a, .fl b, .si .u32 n] [] (some [true])) = some (.fl a, some [], (decide ((bwX a b n).k < a.k), true) :: bwO a b n) := by kernel_rfl
theorem bwRun2 (a b : F) (n : Int) : valR ((run Tryz.prog EG OIM 80).1 23 [.fl a, .fl b, .si .u32 n] [] (some [false, true])) = some (.fl b, some [], (decide (b.k < (bwX a b n).k), true) :: (decide ((bwX a b n).k < a.k), false) :: bwO a b n) := by kernel_rfl
theorem bwG : PlainOk Tryz.prog 23 (kBw bwF pairB wN32) := by
  intro args ds x ds' ob h ho
  unfold kBw at h
  split at h
  · rename_i a b u
    split at h
    · rename_i n hk
      simp only [Option.some.injEq, Prod.mk.injEq] at h; obtain ⟨rfl, _, rfl⟩ := h
      have hp : pairB a b = true := ho _ (List.mem_cons_self ..)
      have hn : wN32 n = true := ho (_, true) (List.mem_cons_of_mem _ (List.mem_cons_self ..))
      have hO := bw_ok hp hn
      refine ⟨[.float .f64 a.b, .float .f64 b.b, .int .u32 n], .float .f64 (bwF a b n).b, plains_cons rfl (plains_cons rfl (plains_cons (intS_plain hk) plains_nil)), rfl, fun w => ?_⟩
      unfold bwF
      cases h1 : decide ((bwX a b n).k < a.k)
      · cases h2 : decide (b.k < (bwX a b n).k)
        · exact calls_of_val goodG oracleIM 80 (bwRun a b n) (ObsOk.of_B (obsB_yes h2 (obsB_yes h1 hO))) rfl rfl w
        · exact calls_of_val goodG oracleIM 80 (bwRun2 a b n) (ObsOk.of_B (obsB_yes h2 (obsB_yes h1 hO))) rfl rfl w
      · exact calls_of_val goodG oracleIM 80 (bwRun1 a b n) (ObsOk.of_B (obsB_yes h1 hO)) rfl rfl w
    · cases h
  · cases h
theorem ptRun (a : F) : valR ((run Tryz.prog EG OIM 80).1 35 [.fl a] [] (some [])) = some (.agg [.fl (sf (fad a (toF 0))), .fl (sf (fad a (toF 0)))], some [], so (fad a (toF 0)) ++ so (fad a (toF 0))) := by kernel_rfl
theorem ptG : PlainOk Tryz.prog 35 kPt := by
  intro args ds x ds' ob h ho
  unfold kPt at h
  split at h
  · rename_i a
    simp only [Option.some.injEq, Prod.mk.injEq] at h; obtain ⟨rfl, _, rfl⟩ := h
    obtain ⟨o1, o2⟩ := so_ok (fad_zero a)
    refine ⟨[.float .f64 a.b], _, rfl, rfl, fun w => ?_⟩
    have r := ptRun a
    rw [o2] at r
    exact calls_of_val goodG oracleIM 80 r (ObsOk.of_B (ob2 o1 o1)) rfl rfl w
  · cases h
end Go.Proofs.YtlhlcefkmhhmjaaGreat
namespace Bu
set_option linter.all false
open Rx Go

def z64 : F := toF 0
def PIc : I := ⟨pi64, (nextF pi64 true).1⟩
structure V3 where
  x : I
  y : I
  z : I
def V3.zero : V3 := ⟨I.zero, I.zero, I.zero⟩
def V3.sv (v : V3) : SV := .agg [.fl v.x.lo, .fl v.x.hi, .fl v.y.lo, .fl v.y.hi, .fl v.z.lo, .fl v.z.hi]
def kAbs : List SV → Dec → Option (SV × Dec × Obs)
  | [.fl x], ds => some (.fl x.abs, ds, [])
  | _, _ => none
/-- of  -/
def unP (x y z : F) : List Op := [.num (x), .num (y), .num (z), .sqr 2, .sqr 2, .add 1 0, .sqr 3, .add 1 0, .sqrt 0, .div 8 0, .wi 0, .div 9 2, .wi 0, .div 10 4, .wi 0]
/-- of al, c -/
def ggD : List Op := [.sqr 1, .lit (PIc), .num (one64), .sub 2 0, .sqr 4, .mul 1 0, .num (one64), .add 1 0, .sqr 0, .mul 7 0, .div 9 0]
/-- of al, c -/
def gg1 : List Op := [.sqr 1, .num (one64), .sqr 2, .num (one64), .sub 0 1, .div 0 2, .num (q2), .num (one64), .mul 7 2, .add 1 0, .sqrt 0, .num (one64), .sub 1 0, .mul 6 0, .hid 0, .add 13 0, .num (one64), .div 0 1]
end Bu
namespace Go.Proofs.YtlhlcefkmhhmjaaGreat
set_option linter.all false
open Go.RowKit Bu Rx

def OCL (K : Kk) : List (Nat × OF) := [(95, kC (aII K.add)), (98, kC (aII K.sub)), (21, kC (aII K.mul)), (17, kC (aII K.div)), (101, kC (aII K.max)), (85, kC (aI K.sqr)), (82, kC (aI K.sqrt))] ++
  [(18, kC (aF K.num)), (55, plainO (kBI rt)), (50, plainO oRight), (49, plainO kAbs), (54, plainO (oI1 withI)), (19, plainO (oConst (.agg [.fl PIc.lo, .fl PIc.hi])))]
theorem absG : PlainOk Tryz.prog 49 kAbs := by
  intro args ds x ds' ob h ho
  unfold kAbs at h
  split at h
  · rename_i x
    simp only [Option.some.injEq, Prod.mk.injEq] at h
    obtain ⟨rfl, _, _⟩ := h
    exact ⟨[.float .f64 x.b], _, rfl, rfl, fun w => (abs_F x w).mono fun e w' ⟨h1, h2⟩ => ⟨h1, h2 ▸ Below.refl _ _⟩⟩
  · cases h
theorem vwRun0 (a b : F) : valR ((run Tryz.prog EG OIM 60).1 54 [.agg [.fl a, .fl b]] [] (some [true])) = some (.agg [.fl F.zero, .fl F.zero], some [], [(decide ((mnF b one64).k < (mxF a mone64).k), true)]) := by kernel_rfl
theorem vwRun1 (a b : F) : valR ((run Tryz.prog EG OIM 60).1 54 [.agg [.fl a, .fl b]] [] (some [false])) = some (.agg [.fl (mxF a mone64), .fl (mnF b one64)], some [], [(decide ((mnF b one64).k < (mxF a mone64).k), false)]) := by kernel_rfl
theorem vwG : PlainOk Tryz.prog 54 (oI1 withI) := by
  intro args ds x ds' ob h ho
  unfold oI1 at h
  split at h
  · rename_i a b
    simp only [Option.some.injEq, Prod.mk.injEq] at h
    obtain ⟨rfl, _, _⟩ := h
    refine ⟨[.agg #[.float .f64 a.b, .float .f64 b.b]], _, rfl, rfl, fun w => ?_⟩
    cases h1 : decide ((mnF b one64).k < (mxF a mone64).k)
    · rw [show withI ⟨a, b⟩ = ⟨mxF a mone64, mnF b one64⟩ from by simp only [withI, h1, cond_false]]
      exact calls_of_val goodG oracleIM 60 (vwRun1 a b) (ObsOk.of_B (obsB_yes h1 obsB_nil)) rfl rfl w
    · rw [show withI ⟨a, b⟩ = ⟨F.zero, F.zero⟩ from by simp only [withI, I.zero, h1, cond_true]]
      exact calls_of_val goodG oracleIM 60 (vwRun0 a b) (ObsOk.of_B (obsB_yes h1 obsB_nil)) rfl rfl w
  · cases h
def OPi : OracleF := lookO [(46, plainO (kNx nextF))]
theorem oraclePi : OracleOk Tryz.prog OPi := .cons nextG.of (.nil _)
def OPiK (f : F → Bool → F × Int) : OracleF := lookO [(46, plainO (kNx f))]
theorem piRun (f : F → Bool → F × Int) : valR ((run Tryz.prog EG (OPiK f) 60).1 19 [] [] (some [])) = some (.agg [.fl pi64, .fl (f pi64 true).1], some [], []) := by kernel_rfl
theorem piG : PlainOk Tryz.prog 19 (oConst (.agg [.fl PIc.lo, .fl PIc.hi])) := constG rfl fun w => calls_of_val goodG oraclePi 60 (piRun nextF) (ObsOk.of_B obsB_nil) rfl rfl w
theorem oracleCL : OracleOk Tryz.prog (lookO (OCL KkR)) :=
  .cons addC <| .cons subC <| .cons mulC <| .cons divC <| .cons cmax_I <| .cons sqrC <| .cons csqrt_I <|
  .cons numC <| .cons irtK.of <| .cons rightG.of <| .cons absG.of <| .cons vwG.of <| .cons piG.of <| .nil _
end Go.Proofs.YtlhlcefkmhhmjaaGreat
namespace Bu
set_option linter.all false
open Rx Go

def minA : F := toF 4584664420663164928
def tiny64 : F := toF 4318952042648305664
def huge64 : F := toF 4895412794951729152
def neB (e : Int) : Bool := !(e == 0)
def unE (K : Kk) (x y z : F) : List I × Int := evalK K (unP x y z) [] 0
def unV (K : Kk) (x y z : F) : V3 := ⟨gt (unE K x y z).1 4, gt (unE K x y z).1 2, gt (unE K x y z).1 0⟩
def mostF (x y z : F) : F := mxF (mxF x.abs y.abs) z.abs
def unB (x y z : F) : Bool := !decide ((mostF x y z).k < tiny64.k) && !decide (huge64.k < (mostF x y z).k)
def kUn (f : F → F → F → V3) (p : F → F → F → Bool) : List SV → Dec → Option (SV × Dec × Obs)
  | [.agg [.fl x, .fl y, .fl z]], ds => (takeB ds (p x y z)).map fun r => (bif r.1 then .tup [(f x y z).sv, .i .i64 0] else .tup [V3.zero.sv, .i .i64 50], r.2.1, r.2.2)
  | _, _ => none
def ggE (K : Kk) (p : List Op) (c al : I) : List I × Int := evalK K p [c, al] 0
def ggR (K : Kk) (p : List Op) (c al : I) : I × Int := bif neB (ggE K p c al).2 then (I.zero, (ggE K p c al).2) else (gt (ggE K p c al).1 0, 0)
def alO (al : I) : Obs := [(decide (al.hi.k ≤ one64.k), true), (decide (minA.k ≤ al.lo.k), true), (rt al, true)]
def ggO (c al : I) : Obs := [(decide (c.hi.k ≤ one64.k), true), (decide (z64.k ≤ c.lo.k), true), (rt c, true)] ++ alO al
def kGg (f : I → I → I × Int) : List SV → Dec → Option (SV × Dec × Obs)
  | [.agg [.fl a, .fl b], .agg [.fl c, .fl d]], ds => some (.tup [.agg [.fl (f ⟨a, b⟩ ⟨c, d⟩).1.lo, .fl (f ⟨a, b⟩ ⟨c, d⟩).1.hi], .si .i64 (f ⟨a, b⟩ ⟨c, d⟩).2], ds, ggO ⟨a, b⟩ ⟨c, d⟩)
  | _, _ => none
def dirO (v : V3) : Obs := [(decide (v.z.hi.k ≤ one64.k), true), (decide (z64.k ≤ v.z.lo.k), true), (decide (v.y.hi.k ≤ one64.k), true), (decide (mone64.k ≤ v.y.lo.k), true), (decide (v.x.hi.k ≤ one64.k), true), (decide (mone64.k ≤ v.x.lo.k), true), (rt v.z, true), (rt v.y, true), (rt v.x, true)]
end Bu
namespace Go.Proofs.YtlhlcefkmhhmjaaGreat
set_option linter.all false
open Go.RowKit Bu Rx

def ivS (a : I) : SV := .agg [.fl a.lo, .fl a.hi]
theorem unRun (K : Kk) (x y z : F) : valR ((run Tryz.prog EG (lookO (OCL K)) 80).1 24 [.agg [.fl x, .fl y, .fl z]] [] (some [false, false])) = some (.tup [(unV K x y z).sv, .i .i64 0], some [], [(decide (huge64.k < (mostF x y z).k), false), (decide ((mostF x y z).k < tiny64.k), false)]) := by kernel_rfl
theorem unRun1 (K : Kk) (x y z : F) : valR ((run Tryz.prog EG (lookO (OCL K)) 80).1 24 [.agg [.fl x, .fl y, .fl z]] [] (some [true])) = some (.tup [V3.zero.sv, .i .i64 50], some [], [(decide ((mostF x y z).k < tiny64.k), true)]) := by kernel_rfl
theorem unRun2 (K : Kk) (x y z : F) : valR ((run Tryz.prog EG (lookO (OCL K)) 80).1 24 [.agg [.fl x, .fl y, .fl z]] [] (some [false, true])) = some (.tup [V3.zero.sv, .i .i64 50], some [], [(decide (huge64.k < (mostF x y z).k), true), (decide ((mostF x y z).k < tiny64.k), false)]) := by kernel_rfl
theorem ggDRun (K : Kk) (c al : I) : valR ((run Tryz.prog EG (lookO (OCL K)) 80).1 66 [ivS c, ivS al] [] (some [true, true, true, true, true, true, false])) = some (.tup [ivS (gt (ggE K ggD c al).1 0), .i .i64 0], some [], (neB (ggE K ggD c al).2, false) :: ggO c al) := by kernel_rfl
theorem ggDRun1 (K : Kk) (c al : I) : valR ((run Tryz.prog EG (lookO (OCL K)) 80).1 66 [ivS c, ivS al] [] (some [true, true, true, true, true, true, true])) = some (.tup [ivS I.zero, .si .i64 (ggE K ggD c al).2], some [], (neB (ggE K ggD c al).2, true) :: ggO c al) := by kernel_rfl
theorem gg1Run (K : Kk) (c al : I) : valR ((run Tryz.prog EG (lookO (OCL K)) 80).1 68 [ivS c, ivS al] [] (some [true, true, true, true, true, true, false])) = some (.tup [ivS (gt (ggE K gg1 c al).1 0), .i .i64 0], some [], (neB (ggE K gg1 c al).2, false) :: ggO c al) := by kernel_rfl
theorem gg1Run1 (K : Kk) (c al : I) : valR ((run Tryz.prog EG (lookO (OCL K)) 80).1 68 [ivS c, ivS al] [] (some [true, true, true, true, true, true, true])) = some (.tup [ivS I.zero, .si .i64 (ggE K gg1 c al).2], some [], (neB (ggE K gg1 c al).2, true) :: ggO c al) := by kernel_rfl
theorem neB_0 {e : Int} (h : neB e = false) : e = 0 := by unfold neB at h; simpa using h
/-- the known function of a ggx formula -/
theorem gg_known {g : FuncId} {p : List Bu.Op}
    (h0 : ∀ (K : Kk) (c al : I), valR ((run Tryz.prog EG (lookO (OCL K)) 80).1 g [ivS c, ivS al] [] (some [true, true, true, true, true, true, false])) = some (.tup [ivS (gt (ggE K p c al).1 0), .i .i64 0], some [], (neB (ggE K p c al).2, false) :: ggO c al))
    (h1 : ∀ (K : Kk) (c al : I), valR ((run Tryz.prog EG (lookO (OCL K)) 80).1 g [ivS c, ivS al] [] (some [true, true, true, true, true, true, true])) = some (.tup [ivS I.zero, .si .i64 (ggE K p c al).2], some [], (neB (ggE K p c al).2, true) :: ggO c al)) : PlainOk Tryz.prog g (kGg (ggR KkR p)) := by
  intro args ds x ds' ob h ho
  unfold kGg at h
  split at h
  · rename_i a b c d
    simp only [Option.some.injEq, Prod.mk.injEq] at h
    obtain ⟨rfl, _, rfl⟩ := h
    refine ⟨[.agg #[.float .f64 a.b, .float .f64 b.b], .agg #[.float .f64 c.b, .float .f64 d.b]], _, rfl, rfl, fun w => ?_⟩
    unfold ggR
    cases k : neB (ggE KkR p ⟨a, b⟩ ⟨c, d⟩).2
    · have r := h0 KkR ⟨a, b⟩ ⟨c, d⟩
      exact calls_of_val goodG oracleCL 80 r (fun q hq => by
        rcases List.mem_cons.1 hq with rfl | hq
        · exact k
        · exact ho q hq) rfl rfl w
    · have r := h1 KkR ⟨a, b⟩ ⟨c, d⟩
      exact calls_of_val goodG oracleCL 80 r (fun q hq => by
        rcases List.mem_cons.1 hq with rfl | hq
        · exact k
        · exact ho q hq) rfl rfl w
  · cases h
theorem ggDG : PlainOk Tryz.prog 66 (kGg (ggR KkR ggD)) := gg_known ggDRun ggDRun1
theorem gg1G : PlainOk Tryz.prog 68 (kGg (ggR KkR gg1)) := gg_known gg1Run gg1Run1
theorem unG : PlainOk Tryz.prog 24 (kUn (unV KkR) unB) := by
  intro args ds x ds' ob h ho
  unfold kUn at h
  split at h
  · rename_i x y z
    simp only [Option.map_eq_some_iff, Prod.mk.injEq] at h
    obtain ⟨⟨r, e, o⟩, h1, rfl, rfl, rfl⟩ := h
    have hd : r = unB x y z := takeB_ok h1 ho
    subst hd
    unfold unB
    cases k1 : decide ((mostF x y z).k < tiny64.k)
    · cases k2 : decide (huge64.k < (mostF x y z).k)
      · exact ⟨[.agg #[.float .f64 x.b, .float .f64 y.b, .float .f64 z.b]], _, rfl, rfl, fun w => calls_of_val goodG oracleCL 80 (unRun KkR x y z) (ObsOk.of_B (obsB_yes k2 (obsB_yes k1 obsB_nil))) rfl rfl w⟩
      · exact ⟨[.agg #[.float .f64 x.b, .float .f64 y.b, .float .f64 z.b]], _, rfl, rfl, fun w => calls_of_val goodG oracleCL 80 (unRun2 KkR x y z) (ObsOk.of_B (obsB_yes k2 (obsB_yes k1 obsB_nil))) rfl rfl w⟩
    · exact ⟨[.agg #[.float .f64 x.b, .float .f64 y.b, .float .f64 z.b]], _, rfl, rfl, fun w => calls_of_val goodG oracleCL 80 (unRun1 KkR x y z) (ObsOk.of_B (obsB_yes k1 obsB_nil)) rfl rfl w⟩
  · cases h
end Go.Proofs.YtlhlcefkmhhmjaaGreat
namespace Go.Proofs.YtlhlcefkmhhmjaaGreat
set_option linter.all false
open Go Go.RowKit Bu Rx

theorem mk_okP {a b c : F} (h : rt ⟨a, b⟩ = true) (h1 : c.k ≤ a.k) (h2 : b.k ≤ one64.k) : okP (a.b, b.b, c.b) := ⟨a, b, c, rfl, rfl, rfl, h, h1, h2⟩
theorem lit_b : mone64.b = 13830554455654793216 ∧ z64.b = 0 := by decide +kernel
/-- a direction's parts may be -/
theorem dir_ok {v : V3} (h : ObsOk (dirO v)) : okP (v.x.lo.b, v.x.hi.b, mone64.b) ∧ okP (v.y.lo.b, v.y.hi.b, mone64.b) ∧ okP (v.z.lo.b, v.z.hi.b, z64.b) := by
  have m : ∀ q ∈ dirO v, q.1 = q.2 := h
  have g : ∀ {c : Bool}, (c, true) ∈ dirO v → c = true := fun hq => m _ hq
  refine ⟨mk_okP (g (.tail _ (.tail _ (.tail _ (.tail _ (.tail _ (.tail _ (.tail _ (.tail _ (.head _)))))))))) (of_decide_eq_true (g (.tail _ (.tail _ (.tail _ (.tail _ (.tail _ (.head _)))))))) (of_decide_eq_true (g (.tail _ (.tail _ (.tail _ (.tail _ (.head _))))))),
    mk_okP (g (.tail _ (.tail _ (.tail _ (.tail _ (.tail _ (.tail _ (.tail _ (.head _))))))))) (of_decide_eq_true (g (.tail _ (.tail _ (.tail _ (.head _)))))) (of_decide_eq_true (g (.tail _ (.tail _ (.head _))))),
    mk_okP (g (.tail _ (.tail _ (.tail _ (.tail _ (.tail _ (.tail _ (.head _)))))))) (of_decide_eq_true (g (.tail _ (.head _)))) (of_decide_eq_true (g (.head _)))⟩
def kMlook : OF := fun args M ds => match args with
  | [.sl n 0 2 _] => match M[n]? with
    | some ⟨_, [.fl a, .fl b, .fl c, .fl d, .fl e, .fl f, .fl g, .fl h, .fl i, .fl j, .fl k, .fl l]⟩ => some (.i .i64 0, M, ds, dirO ⟨⟨a, b⟩, ⟨c, d⟩, ⟨e, f⟩⟩ ++ dirO ⟨⟨g, h⟩, ⟨i, j⟩, ⟨k, l⟩⟩)
    | _ => none
  | _ => none
theorem look_w (v u : V3) (hv : ObsOk (dirO v)) (hu : ObsOk (dirO u)) (r cap : Nat) (t : TypeId) (w : World)
    (hr : w.heap[r]? = some (.cells #[.float .f64 v.x.lo.b, .float .f64 v.x.hi.b, .float .f64 v.y.lo.b, .float .f64 v.y.hi.b, .float .f64 v.z.lo.b, .float .f64 v.z.hi.b, .float .f64 u.x.lo.b, .float .f64 u.x.hi.b, .float .f64 u.y.lo.b, .float .f64 u.y.hi.b, .float .f64 u.z.lo.b, .float .f64 u.z.hi.b] t (0, 0))) :
    Calls Tryz.prog 64 #[.slice (some ⟨r, 0, none⟩) 2 cap] w fun e w' => e = .returned (.int .i64 0) ∧ Below w.heap.size w w' := by
  obtain ⟨v1, v2, v3⟩ := dir_ok hv
  obtain ⟨u1, u2, u3⟩ := dir_ok hu
  refine (callsIn_wide (n := 8)).1 (look_in _ 8 trivial trivial trivial trivial rfl (by omega) (fun m q w hq => callsIn_wide.2 (right_pt hq w)) r cap
    (fun j => match j with
      | 0 => ⟨_, v1⟩
      | 1 => ⟨_, v2⟩
      | 2 => ⟨_, v3⟩
      | 3 => ⟨_, u1⟩
      | 4 => ⟨_, u2⟩
      | _ => ⟨_, u3⟩) w (Array.getElem?_eq_some_iff.1 hr).1 ⟨fun j hj => ?_, lit_b.1, lit_b.1, lit_b.2, lit_b.1, lit_b.1, lit_b.2⟩)
  match j, hj with
  | 0, _ => simp [World.cell?, hr]
  | 1, _ => simp [World.cell?, hr]
  | 2, _ => simp [World.cell?, hr]
  | 3, _ => simp [World.cell?, hr]
  | 4, _ => simp [World.cell?, hr]
  | 5, _ => simp [World.cell?, hr]
theorem mlook_ok : OfOk Tryz.prog 64 kMlook := by
  intro args M ds x M' ds' ob h ho m w vs hvs hM
  unfold kMlook at h
  split at h
  · rename_i n cap
    split at h
    · rename_i t a b c d e f g h' i j k l hb
      simp only [Option.some.injEq, Prod.mk.injEq] at h
      obtain ⟨rfl, rfl, _, rfl⟩ := h
      obtain ⟨r, hr, cv, hcv, hh⟩ := hM.blk n _ hb
      have e1 : vs = [.slice (some ⟨r, 0, none⟩) 2 cap] := by
        simp [dens, den, hr] at hvs; exact hvs.symm
      have e2 : cv = [.float .f64 a.b, .float .f64 b.b, .float .f64 c.b, .float .f64 d.b, .float .f64 e.b, .float .f64 f.b, .float .f64 g.b, .float .f64 h'.b, .float .f64 i.b, .float .f64 j.b, .float .f64 k.b, .float .f64 l.b] := by
        simp [dens, den] at hcv; exact hcv.symm
      subst e1; subst e2
      exact (look_w ⟨⟨a, b⟩, ⟨c, d⟩, ⟨e, f⟩⟩ ⟨⟨g, h'⟩, ⟨i, j⟩, ⟨k, l⟩⟩ (fun q hq => ho q (List.mem_append_left _ hq)) (fun q hq => ho q (List.mem_append_right _ hq)) r cap t w hh).mono fun e w' ⟨he, hb⟩ => ⟨m, _, he, CallPost.same hM rfl hb⟩
    · cases h
  · cases h
end Go.Proofs.YtlhlcefkmhhmjaaGreat
namespace Bu
set_option linter.all false
open Rx Go

/-- within a box, and right -/
def InB (a b : I) : Prop := b.lo.k ≤ a.lo.k ∧ a.hi.k ≤ b.hi.k ∧ a.lo.k ≤ a.hi.k
theorem InB.inn {a b : I} (h : InB a b) : Inn a b := ⟨q_le.2 h.1, q_le.2 h.2.1, decide_eq_true h.2.2⟩
theorem Inn.inB {a b : I} (h : Inn a b) : InB a b := ⟨q_le.1 h.lo, q_le.1 h.hi, of_decide_eq_true h.rt⟩
def monoB : Bu.Op → Bool
  | .lit a => rt a
  | .fn _ _ | .fn2 _ _ _ | .wi _ => false
  | _ => true
theorem mono_all {l : List Bu.Op} (h : l.all monoB = true) : ∀ o ∈ l, MonoO o := by
  intro o ho
  have := List.all_eq_true.1 h o ho
  cases o <;> first | trivial | exact this | cases this
def AllIn : List I → List I → Prop
  | [], [] => True
  | a :: v, b :: w => InB a b ∧ AllIn v w
  | _, _ => False
theorem AllIn.inn : ∀ {v w : List I}, AllIn v w → ∀ i, Inn (gt v i) (gt w i)
  | [], [], _, i => Inn.refl (gt_rt (v := []) (fun _ h => by cases h) i)
  | a :: v, b :: w, h, 0 => h.1.inn
  | a :: v, b :: w, h, i + 1 => AllIn.inn (v := v) (w := w) h.2 i
  | [], _ :: _, h, _ => h.elim
  | _ :: _, [], h, _ => h.elim
theorem box {l : List Bu.Op} {v w : List I} (hm : l.all monoB = true) (hv : AllIn v w) (h : (evalK KkR l w 0).2 = 0) : (evalK KkR l v 0).2 = 0 ∧ ∀ i, Inn (gt (evalK KkR l v 0).1 i) (gt (evalK KkR l w 0).1 i) := eval_inn (mono_all hm) hv.inn h
end Bu
