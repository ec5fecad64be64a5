/- Straight lines: programs of interval arithmetic, row by row: what holds where there is no error, which errors there may be, what parts of intervals make of them. Numbers by parts of 2^32 between two others, plain. Package burnishlow by the reckoner: numbers by parts. Packages vec, ggx, vndf, plain: straight lines. Packages vec, ggx, vndf by the reckoner. Packages ggx, vndf, vec, plain: what the functions tell. Packages vec, ggx, vndf by the reckoner: Unit, D, G1, Facing, Draw, Density. Package vndf by the reckoner: Draw, Density. Package vndf by the reckoner: Draw and Density as known functions. Package cosine by the reckoner: Mid; the examples of layer 12; CosineFalls. micro.parts: the parts of two directions, one by one. micro.look: two directions that may be. micro.look as a known function of memory. Within boxes: a line of interval arithmetic that has no error over wide intervals has none over parts of them. Packages fresnel, lambert, oren, micro, pairs: straight lines. What the laws of layer 13 ask. vndf.Draw, plain: what its rows tell where there is no error. vec.Unit, plain: the unit vector of a triple above the horizon. -/
import Derived.Test.YtgjohjgmlleebaaGreatL09
import Derived.Test.YtgjohjgmlleebaaGreatL08
import Derived.Test.YtgjohjgmlleebaaGreatL07
import Derived.Test.YtgjohjgmlleebaaGreatL01
import Derived.RangeFuncNested
import Derived.RangeFuncBound
import Derived.RangeFuncCalls
import Derived.RangeFuncLeaves
import Derived.RangeFuncBox
import Derived.Shelf.Abstract
import Derived.WalkKit
import Derived.OwnWalkIn
import Derived.TacticsInMore
import Derived.LoopNIn
import Derived.LoopIn
import Derived.Test.YtgjohjgmlleebaaGreatProg
namespace Bu
set_option linter.all false
open Rx Go

structure Kk where
  add : Int → I → I → I × Int
  sub : Int → I → I → I × Int
  mul : Int → I → I → I × Int
  div : Int → I → I → I × Int
  max : Int → I → I → I × Int
  sqr : Int → I → I × Int
  sqrt : Int → I → I × Int
  neg : Int → I → I × Int
  num : Int → F → I × Int
def KkR : Kk := ⟨KTR.add, KTR.sub, KTR.mul, KTR.div, cMax, KTR.sqr, cSqrt qSqrt, KTR.neg, KTR.num⟩
inductive Op where
  | add (i j : Nat)
  | sub (i j : Nat)
  | mul (i j : Nat)
  | div (i j : Nat)
  | max (i j : Nat)
  | sqr (i : Nat)
  | sqrt (i : Nat)
  | neg (i : Nat)
  | num (x : F)
  | lit (a : I)
  | fn (f : I → I) (i : Nat)
  | fn2 (f : I → I → I) (i j : Nat)
  | kept (l h : F) (i : Nat)
  | wi (i : Nat)
  | hid (i : Nat)
def hidI (a : I) : I := ⟨mxF a.lo (toF 0), mxF a.hi (toF 0)⟩
def gt (v : List I) (i : Nat) : I := v.getD i I.zero
def stepK (K : Kk) (o : Op) (v : List I) (e : Int) : I × Int :=
  match o with
  | .add i j => K.add e (gt v i) (gt v j)
  | .sub i j => K.sub e (gt v i) (gt v j)
  | .mul i j => K.mul e (gt v i) (gt v j)
  | .div i j => K.div e (gt v i) (gt v j)
  | .max i j => K.max e (gt v i) (gt v j)
  | .sqr i => K.sqr e (gt v i)
  | .sqrt i => K.sqrt e (gt v i)
  | .neg i => K.neg e (gt v i)
  | .num x => K.num e x
  | .lit a => (a, e)
  | .fn f i => (f (gt v i), e)
  | .fn2 f i j => (f (gt v i) (gt v j), e)
  | .kept l h i => (keptI (gt v i) l h, e)
  | .wi i => (withI (gt v i), e)
  | .hid i => (hidI (gt v i), e)
def evalK (K : Kk) : List Op → List I → Int → List I × Int
  | [], v, e => (v, e)
  | o :: l, v, e => evalK K l ((stepK K o v e).1 :: v) (stepK K o v e).2
/-- what a row tells -/
def Fact (o : Op) (v : List I) (r : I) : Prop :=
  match o with
  | .add i j => Dn r.lo ((gt v i).lo.q + (gt v j).lo.q) ∧ Up r.hi ((gt v i).hi.q + (gt v j).hi.q)
  | .sub i j => Dn r.lo ((gt v i).lo.q - (gt v j).hi.q) ∧ Up r.hi ((gt v i).hi.q - (gt v j).lo.q)
  | .mul i j => AllR r ((gt v i).lo.q * (gt v j).lo.q) ((gt v i).lo.q * (gt v j).hi.q) ((gt v i).hi.q * (gt v j).lo.q) ((gt v i).hi.q * (gt v j).hi.q)
  | .div i j => hasB (gt v j) F.zero = false ∧ AllR r ((gt v i).lo.q / (gt v j).lo.q) ((gt v i).lo.q / (gt v j).hi.q) ((gt v i).hi.q / (gt v j).lo.q) ((gt v i).hi.q / (gt v j).hi.q)
  | .max i j => r = maxI (gt v i) (gt v j)
  | .sqr i => Dn r.lo ((bareI (gt v i)).lo.q * (bareI (gt v i)).lo.q) ∧ Up r.hi ((bareI (gt v i)).hi.q * (bareI (gt v i)).hi.q)
  | .sqrt i => 0 ≤ (gt v i).lo.q ∧ SqD r.lo (gt v i).lo ∧ SqU r.hi (gt v i).hi
  | .neg i => r = turnI (gt v i)
  | .num x => r = ⟨x, x⟩
  | .lit a => r = a
  | .fn f i => r = f (gt v i)
  | .fn2 f i j => r = f (gt v i) (gt v j)
  | .kept l h i => r = keptI (gt v i) l h
  | .wi i => r = withI (gt v i)
  | .hid i => r = hidI (gt v i)
/-- a row's arguments are intervals -/
def ArgsRt (o : Op) (v : List I) : Prop :=
  match o with
  | .add i j | .sub i j | .mul i j | .div i j | .max i j => rt (gt v i) = true ∧ rt (gt v j) = true
  | .sqr i | .sqrt i | .neg i => rt (gt v i) = true
  | _ => True
theorem step_fact {o : Op} {v : List I} {e : Int} (h : (stepK KkR o v e).2 = 0) : e = 0 ∧ ArgsRt o v ∧ Fact o v (stepK KkR o v e).1 := by
  cases o with
  | add i j => obtain ⟨a, b, c, _, d⟩ := add_0 h; exact ⟨a, ⟨b, c⟩, d⟩
  | sub i j => obtain ⟨a, b, c, _, d⟩ := sub_0 h; exact ⟨a, ⟨b, c⟩, d⟩
  | mul i j => obtain ⟨a, b, c, _, d⟩ := mul_0 h; exact ⟨a, ⟨b, c⟩, d⟩
  | div i j => obtain ⟨a, b, c, d, _, f⟩ := div_0 h; exact ⟨a, ⟨b, c⟩, d, f⟩
  | max i j => obtain ⟨a, b, c, d⟩ := max_0 h; exact ⟨a, ⟨b, c⟩, congrArg Prod.fst d⟩
  | sqr i => obtain ⟨a, b, _, d⟩ := sqr_0 h; exact ⟨a, b, d⟩
  | sqrt i => obtain ⟨a, b, c, _, d⟩ := sqrt_0 h; exact ⟨a, b, c, d⟩
  | neg i => obtain ⟨a, b, d⟩ := neg_0 h; exact ⟨a, b, congrArg Prod.fst d⟩
  | num x => obtain ⟨a, d⟩ := num_0 h; exact ⟨a, trivial, congrArg Prod.fst d⟩
  | lit a => exact ⟨h, trivial, rfl⟩
  | fn f i => exact ⟨h, trivial, rfl⟩
  | fn2 f i j => exact ⟨h, trivial, rfl⟩
  | kept l u i => exact ⟨h, trivial, rfl⟩
  | wi i => exact ⟨h, trivial, rfl⟩
  | hid i => exact ⟨h, trivial, rfl⟩
theorem step_kept {o : Op} {v : List I} {e : Int} (he : e ≠ 0) : (stepK KkR o v e).2 = e := by
  cases o with
  | add i j => exact congrArg Prod.snd (ask_kept he _ _)
  | sub i j => exact congrArg Prod.snd (ask_kept he _ _)
  | mul i j => exact congrArg Prod.snd (ask_kept he _ _)
  | div i j => exact congrArg Prod.snd (ask_kept he _ _)
  | max i j => exact congrArg Prod.snd (ask_kept he _ _)
  | sqr i => exact congrArg Prod.snd (ask_kept he _ _)
  | sqrt i => exact congrArg Prod.snd (ask_kept he _ _)
  | neg i => exact congrArg Prod.snd (ask_kept he _ _)
  | num x => exact congrArg Prod.snd (ask_kept he _ _)
  | lit a => rfl
  | fn f i => rfl
  | fn2 f i j => rfl
  | kept l u i => rfl
  | wi i => rfl
  | hid i => rfl
theorem eval_kept : ∀ {l : List Op} {v : List I} {e : Int}, e ≠ 0 → (evalK KkR l v e).2 = e
  | [], _, _, _ => rfl
  | o :: l, v, e, he => by
    show (evalK KkR l ((stepK KkR o v e).1 :: v) (stepK KkR o v e).2).2 = e
    rw [step_kept he]; exact eval_kept he
/-- all rows tell what they do -/
def Chain : List Op → List I → List I → Prop
  | [], v, u => u = v
  | o :: l, v, u => ∃ r, Fact o v r ∧ Chain l (r :: v) u
theorem eval_chain : ∀ {l : List Op} {v : List I} {e : Int}, (evalK KkR l v e).2 = 0 → e = 0 ∧ Chain l v (evalK KkR l v e).1
  | [], _, _, h => ⟨h, rfl⟩
  | o :: l, v, e, h => by
    obtain ⟨h1, h2⟩ := eval_chain (l := l) h
    obtain ⟨g1, _, g2⟩ := step_fact h1
    exact ⟨g1, _, g2, h2⟩
theorem eval_cons {K : Kk} {o : Op} {l : List Op} {v : List I} {r : I} {e e' : Int} (h : stepK K o v e = (r, e')) : evalK K (o :: l) v e = evalK K l (r :: v) e' := by
  show evalK K l ((stepK K o v e).1 :: v) (stepK K o v e).2 = _
  rw [h]
theorem dn_up {l h : F} {v w : Rat} (a : Dn l v) (b : Up h w) (c : v ≤ w) : rt ⟨l, h⟩ = true := rt_q (by have := a.le; have := b.ge; show l.q ≤ h.q; grind)
theorem AllR.rt {r : I} {p q s t : Rat} (h : AllR r p q s t) : rt r = true := rt_q (Rat.le_trans h.lo.1 h.hi.1)
theorem maxI_rt {a b : I} (ha : rt a = true) (hb : rt b = true) : rt (maxI a b) = true := by
  have h1 := of_decide_eq_true ha; have h2 := of_decide_eq_true hb
  refine decide_eq_true ?_
  show (mxF a.lo b.lo).k ≤ (mxF a.hi b.hi).k
  rw [mxF_k, mxF_k]; omega
theorem turnI_rt {a : I} (ha : rt a = true) : rt (turnI a) = true := by
  have h1 := of_decide_eq_true ha
  refine decide_eq_true ?_
  show -a.hi.k ≤ -a.lo.k
  omega
theorem sq_rt {r a : I} (ha : rt a = true) (h0 : 0 ≤ a.lo.q) (h1 : SqD r.lo a.lo) (h2 : SqU r.hi a.hi) : rt r = true := by
  have l := rt_le ha
  have := h1.le; have := h2.ge
  exact rt_q (sq_le' h1.nn h2.nn (by grind))
theorem keptI_k (a : I) (l h : F) : (keptI a l h).lo.k = min (max a.lo.k l.k) h.k ∧ (keptI a l h).hi.k = min (max a.hi.k l.k) h.k := by
  unfold keptI
  simp only [mnF_k, mxF_k]
  exact ⟨trivial, trivial⟩
theorem keptI_rt {a : I} {l h : F} (ha : rt a = true) : rt (keptI a l h) = true := by
  have h1 := of_decide_eq_true ha
  obtain ⟨e1, e2⟩ := keptI_k a l h
  refine decide_eq_true ?_
  rw [e1, e2]; omega
theorem withI_rt (a : I) : rt (withI a) = true := by
  unfold withI
  cases h : decide ((mnF a.hi one64).k < (mxF a.lo mone64).k)
  · have := of_decide_eq_false h
    exact decide_eq_true (by show (mxF a.lo mone64).k ≤ (mnF a.hi one64).k; omega)
  · exact (show rt I.zero = true by decide)
theorem hidI_k (a : I) : (hidI a).lo.k = max a.lo.k (toF 0).k ∧ (hidI a).hi.k = max a.hi.k (toF 0).k := by
  unfold hidI
  simp only [mxF_k]
  exact ⟨trivial, trivial⟩
theorem hidI_rt {a : I} (ha : rt a = true) : rt (hidI a) = true := by
  have h1 := of_decide_eq_true ha
  obtain ⟨e1, e2⟩ := hidI_k a
  refine decide_eq_true ?_
  rw [e1, e2]; omega
def okO (o : Op) (v : List I) : Prop :=
  match o with
  | .sqrt i => 0 ≤ (gt v i).lo.q
  | .lit a => rt a = true
  | .fn f i => rt (f (gt v i)) = true
  | .fn2 f i j => rt (f (gt v i) (gt v j)) = true
  | _ => True
theorem gt_rt {v : List I} (h : ∀ a ∈ v, rt a = true) (i : Nat) : rt (gt v i) = true := by
  unfold gt
  rw [List.getD_eq_getElem?_getD]
  cases k : v[i]? with
  | none => decide
  | some a => exact h a (List.mem_of_getElem? k)
theorem fact_rt {o : Op} {v : List I} {r : I} (hv : ∀ a ∈ v, rt a = true) (ho : okO o v) (h : Fact o v r) : rt r = true := by
  have g := gt_rt hv
  cases o with
  | add i j => have a := rt_le (g i); have b := rt_le (g j); exact dn_up h.1 h.2 (by grind)
  | sub i j => have a := rt_le (g i); have b := rt_le (g j); exact dn_up h.1 h.2 (by grind)
  | mul i j => exact h.rt
  | div i j => exact h.2.rt
  | max i j => rw [show r = _ from h]; exact maxI_rt (g i) (g j)
  | sqr i =>
    obtain ⟨b1, b2, _⟩ := bare_gen (g i)
    have := sq_bd (x := (bareI (gt v i)).lo.q) (m := (bareI (gt v i)).hi.q) (by grind) b2
    exact dn_up h.1 h.2 this
  | sqrt i => exact sq_rt (g i) ho h.2.1 h.2.2
  | neg i => rw [show r = _ from h]; exact turnI_rt (g i)
  | num x => rw [show r = _ from h]; exact decide_eq_true (Int.le_refl _)
  | lit a => rw [show r = _ from h]; exact ho
  | fn f i => rw [show r = _ from h]; exact ho
  | fn2 f i j => rw [show r = _ from h]; exact ho
  | kept l u i => rw [show r = _ from h]; exact keptI_rt (g i)
  | wi i => rw [show r = _ from h]; exact withI_rt _
  | hid i => rw [show r = _ from h]; exact hidI_rt (g i)
theorem qSqrt_er {up : Bool} {a : F} (h : 0 ≤ a.q) : (qSqrt up a).2 = 0 := by
  cases up
  · obtain ⟨r, e, _⟩ := (qSqrt_gen h).1; rw [e]
  · obtain ⟨r, e, _⟩ := (qSqrt_gen h).2; rw [e]
theorem step_er {o : Op} {v : List I} (hv : ∀ a ∈ v, rt a = true) (ho : okO o v) : Er (stepK KkR o v 0).2 := by
  have g := gt_rt hv
  have z : Er 0 := .inl rfl
  have two : ∀ {i j}, (rt (gt v i) && rt (gt v j)) = true := by intro i j; rw [g i, g j]; rfl
  cases o with
  | add i j => exact ask_er z two (ends_er (dAdd_RD _ _).er (dAdd_RU _ _).er)
  | sub i j => exact ask_er z two (ends_er (dSub_RD _ _).er (dSub_RU _ _).er)
  | mul i j => exact ask_er z two (all_er (mul_four _ _))
  | div i j =>
    refine ask_er z two ?_
    cases k : hasB (gt v j) F.zero
    · exact all_er (div_four (g j) k)
    · exact .inr (.inr rfl)
  | max i j => exact ask_er z two z
  | sqr i => exact ask_er z (g i) (ends_er (dMul_RD _ _).er (dMul_RU _ _).er)
  | sqrt i =>
    have l := rt_le (g i)
    have ho' : 0 ≤ (gt v i).lo.q := ho
    exact ask_er z (g i) (ends_er (.inl (qSqrt_er ho')) (.inl (qSqrt_er (by grind))))
  | neg i => exact ask_er z (g i) z
  | num x => exact ask_er z rfl z
  | lit a => exact z
  | fn f i => exact z
  | fn2 f i j => exact z
  | kept l u i => exact z
  | wi i => exact z
  | hid i => exact z
def CondE : List Op → List I → Prop
  | [], _ => True
  | o :: l, v => okO o v ∧ ∀ r, Fact o v r → rt r = true → CondE l (r :: v)
theorem eval_er : ∀ {l : List Op} {v : List I}, (∀ a ∈ v, rt a = true) → CondE l v → Er (evalK KkR l v 0).2
  | [], _, _, _ => .inl rfl
  | o :: l, v, hv, hc => by
    have h := step_er hv hc.1
    by_cases k : (stepK KkR o v 0).2 = 0
    · obtain ⟨_, _, f⟩ := step_fact k
      have r := fact_rt hv hc.1 f
      have ih := eval_er (l := l) (v := (stepK KkR o v 0).1 :: v) (fun a ha => by
        rcases List.mem_cons.1 ha with rfl | ha
        · exact r
        · exact hv a ha) (hc.2 _ f r)
      show Er (evalK KkR l ((stepK KkR o v 0).1 :: v) (stepK KkR o v 0).2).2
      rw [k]; exact ih
    · show Er (evalK KkR l ((stepK KkR o v 0).1 :: v) (stepK KkR o v 0).2).2
      rw [eval_kept k]; exact h
structure Inn (a b : I) : Prop where
  lo : b.lo.q ≤ a.lo.q
  hi : a.hi.q ≤ b.hi.q
  rt : rt a = true
theorem Inn.mem {a b : I} (h : Inn a b) : Mem b a.lo.q ∧ Mem b a.hi.q := by
  have := rt_le h.rt; have := h.lo; have := h.hi
  exact ⟨⟨h.lo, by grind⟩, ⟨by grind, h.hi⟩⟩
theorem Inn.refl {a : I} (h : Bu.rt a = true) : Inn a a := ⟨Rat.le_refl, Rat.le_refl, h⟩
def MonoO : Op → Prop
  | .lit a => rt a = true
  | .fn f _ => ∀ a b, Inn a b → Inn (f a) (f b)
  | .fn2 f _ _ => ∀ a b c d, Inn a b → Inn c d → Inn (f a c) (f b d)
  | .wi _ => False
  | _ => True
theorem ends_mk {p q : F × Int} (h : p.2 = 0) (k : q.2 = 0) : endsI p q = (⟨p.1, q.1⟩, 0) := by
  unfold endsI; rw [h, k]; rfl
theorem ask_mk {g : Bool} {r : I × Int} (hg : g = true) (h : r.2 = 0) : askI 0 g r = (r.1, 0) := ask_ok hg h
theorem add_inn {a a' b b' : I} (ha : Inn a a') (hb : Inn b b') (h : (cAdd dAdd 0 a' b').2 = 0) : ∃ r, cAdd dAdd 0 a b = (r, 0) ∧ Inn r (cAdd dAdd 0 a' b').1 := by
  obtain ⟨_, _, _, _, d, u⟩ := add_0 h
  generalize (cAdd dAdd 0 a' b').1 = r' at *
  have := d.le; have := u.ge; have := ha.lo; have := ha.hi; have := hb.lo; have := hb.hi
  have p := (dAdd_RD a.lo b.lo).has (c := r'.lo) (by grind)
  have q := (dAdd_RU a.hi b.hi).has (c := r'.hi) (by grind)
  refine ⟨⟨(dAdd false a.lo b.lo).1, (dAdd true a.hi b.hi).1⟩, ?_, ⟨p.2, q.2, ?_⟩⟩
  · unfold cAdd
    rw [ends_mk p.1 q.1, ask_mk (by rw [ha.rt, hb.rt]; rfl) rfl]
  · have := rt_le ha.rt; have := rt_le hb.rt
    exact dn_up ((dAdd_RD a.lo b.lo).ok p.1) ((dAdd_RU a.hi b.hi).ok q.1) (by grind)
theorem sub_inn {a a' b b' : I} (ha : Inn a a') (hb : Inn b b') (h : (cSub dSub 0 a' b').2 = 0) : ∃ r, cSub dSub 0 a b = (r, 0) ∧ Inn r (cSub dSub 0 a' b').1 := by
  obtain ⟨_, _, _, _, d, u⟩ := sub_0 h
  generalize (cSub dSub 0 a' b').1 = r' at *
  have := d.le; have := u.ge; have := ha.lo; have := ha.hi; have := hb.lo; have := hb.hi
  have p := (dSub_RD a.lo b.hi).has (c := r'.lo) (by grind)
  have q := (dSub_RU a.hi b.lo).has (c := r'.hi) (by grind)
  refine ⟨⟨(dSub false a.lo b.hi).1, (dSub true a.hi b.lo).1⟩, ?_, ⟨p.2, q.2, ?_⟩⟩
  · unfold cSub
    rw [ends_mk p.1 q.1, ask_mk (by rw [ha.rt, hb.rt]; rfl) rfl]
  · have := rt_le ha.rt; have := rt_le hb.rt
    exact dn_up ((dSub_RD a.lo b.hi).ok p.1) ((dSub_RU a.hi b.lo).ok q.1) (by grind)
theorem mul_inn {a a' b b' : I} (ha : Inn a a') (hb : Inn b b') (h : (cMul dMul 0 a' b').2 = 0) : ∃ r, cMul dMul 0 a b = (r, 0) ∧ Inn r (cMul dMul 0 a' b').1 := by
  obtain ⟨_, _, _, _, d⟩ := mul_0 h
  generalize (cMul dMul 0 a' b').1 = r' at *
  obtain ⟨a1, a2⟩ := ha.mem
  obtain ⟨b1, b2⟩ := hb.mem
  have m1 := mul_mem d a1 b1
  have m2 := mul_mem d a1 b2
  have m3 := mul_mem d a2 b1
  have m4 := mul_mem d a2 b2
  obtain ⟨r, e, hr, c1, c2⟩ := all_has (mul_four a b) m1.lo m2.lo m3.lo m4.lo m1.hi m2.hi m3.hi m4.hi
  refine ⟨r, ?_, ⟨c1, c2, hr.rt⟩⟩
  unfold cMul
  rw [e, ask_mk (by rw [ha.rt, hb.rt]; rfl) rfl]
theorem div_inn {a a' b b' : I} (ha : Inn a a') (hb : Inn b b') (h : (cDiv pDiv 0 a' b').2 = 0) : ∃ r, cDiv pDiv 0 a b = (r, 0) ∧ Inn r (cDiv pDiv 0 a' b').1 := by
  obtain ⟨_, _, hr', hz, _, d⟩ := div_0 h
  generalize (cDiv pDiv 0 a' b').1 = r' at *
  obtain ⟨a1, a2⟩ := ha.mem
  obtain ⟨b1, b2⟩ := hb.mem
  have n := no_zero hr' hz
  have z : hasB b F.zero = false := by
    unfold hasB
    rw [hb.rt, Bool.true_and, Bool.and_eq_false_iff, decide_eq_false_iff_not, decide_eq_false_iff_not]
    have l1 := hb.lo; have l2 := hb.hi
    rcases n with n | n
    · left; intro k; have := q_le.2 k; rw [q_zero] at this; grind
    · right; intro k; have := q_le.2 k; rw [q_zero] at this; grind
  have m1 := div_in hr' hz d a1 b1
  have m2 := div_in hr' hz d a1 b2
  have m3 := div_in hr' hz d a2 b1
  have m4 := div_in hr' hz d a2 b2
  obtain ⟨r, e, hr, c1, c2⟩ := all_has (div_four (a := a) hb.rt z) m1.lo m2.lo m3.lo m4.lo m1.hi m2.hi m3.hi m4.hi
  refine ⟨r, ?_, ⟨c1, c2, hr.rt⟩⟩
  unfold cDiv
  rw [z, cond_false, e, ask_mk (by rw [ha.rt, hb.rt]; rfl) rfl]
theorem sqr_inn {a a' : I} (ha : Inn a a') (h : (cSqr dMul 0 a').2 = 0) : ∃ r, cSqr dMul 0 a = (r, 0) ∧ Inn r (cSqr dMul 0 a').1 := by
  obtain ⟨_, hr, _, d, u⟩ := sqr_0 h
  generalize (cSqr dMul 0 a').1 = r' at *
  obtain ⟨b1, b2, _⟩ := bare_gen ha.rt
  obtain ⟨e1, e2⟩ := bare_ends ha.rt
  have key : ∀ {x : Rat}, (Mem a x ∨ Mem a (-x)) → Mem r' (x * x) := by
    intro x hx
    have up : ∀ {y : Rat}, Mem a y → Mem a' y := fun hy => ⟨by have := hy.lo; have := ha.lo; grind, by have := hy.hi; have := ha.hi; grind⟩
    rcases hx with hx | hx
    · exact sqr_in' hr d u (up hx)
    · have := sqr_in' hr d u (up hx)
      rwa [show -x * -x = x * x by grind] at this
  have p := (dMul_RD (bareI a).lo (bareI a).lo).has (c := r'.lo) (key e1).lo
  have q := (dMul_RU (bareI a).hi (bareI a).hi).has (c := r'.hi) (key e2).hi
  refine ⟨⟨(dMul false (bareI a).lo (bareI a).lo).1, (dMul true (bareI a).hi (bareI a).hi).1⟩, ?_, ⟨p.2, q.2, ?_⟩⟩
  · unfold cSqr
    rw [ends_mk p.1 q.1, ask_mk ha.rt rfl]
  · exact dn_up ((dMul_RD _ _).ok p.1) ((dMul_RU _ _).ok q.1) (sq_bd (by grind) b2)
theorem sqrt_inn {a a' : I} (ha : Inn a a') (h : (cSqrt qSqrt 0 a').2 = 0) : ∃ r, cSqrt qSqrt 0 a = (r, 0) ∧ Inn r (cSqrt qSqrt 0 a').1 := by
  obtain ⟨_, _, h0, _, d, u⟩ := sqrt_0 h
  generalize (cSqrt qSqrt 0 a').1 = r' at *
  have l1 := ha.lo; have l2 := ha.hi; have l3 := rt_le ha.rt
  obtain ⟨x, e1, s1⟩ := (qSqrt_gen (a := a.lo) (by grind)).1
  obtain ⟨y, e2, s2⟩ := (qSqrt_gen (a := a.hi) (by grind)).2
  have dl := d.le; have ug := u.ge
  refine ⟨⟨x, y⟩, ?_, ⟨s1.top _ d.nn (by grind), s2.bot _ u.nn (by grind), sq_rt (r := ⟨x, y⟩) ha.rt (by grind) s1 s2⟩⟩
  unfold cSqrt
  rw [e1, e2, ends_mk rfl rfl, ask_mk ha.rt rfl]
theorem max_inn {a a' b b' : I} (ha : Inn a a') (hb : Inn b b') : Inn (maxI a b) (maxI a' b') := by
  have h1 := q_le.1 ha.lo; have h2 := q_le.1 ha.hi; have h3 := q_le.1 hb.lo; have h4 := q_le.1 hb.hi
  refine ⟨q_le.2 ?_, q_le.2 ?_, maxI_rt ha.rt hb.rt⟩
  · show (mxF a'.lo b'.lo).k ≤ (mxF a.lo b.lo).k
    rw [mxF_k, mxF_k]; omega
  · show (mxF a.hi b.hi).k ≤ (mxF a'.hi b'.hi).k
    rw [mxF_k, mxF_k]; omega
theorem turn_inn {a a' : I} (ha : Inn a a') : Inn (turnI a) (turnI a') := by
  have h1 := ha.lo; have h2 := ha.hi
  refine ⟨?_, ?_, turnI_rt ha.rt⟩
  · show a'.hi.neg.q ≤ a.hi.neg.q
    rw [q_neg, q_neg]; grind
  · show a.lo.neg.q ≤ a'.lo.neg.q
    rw [q_neg, q_neg]; grind
theorem kept_inn {a a' : I} (l h : F) (ha : Inn a a') : Inn (keptI a l h) (keptI a' l h) := by
  have h1 := q_le.1 ha.lo; have h2 := q_le.1 ha.hi
  obtain ⟨e1, e2⟩ := keptI_k a l h
  obtain ⟨e3, e4⟩ := keptI_k a' l h
  exact ⟨q_le.2 (by rw [e1, e3]; omega), q_le.2 (by rw [e2, e4]; omega), keptI_rt ha.rt⟩
theorem hid_inn {a a' : I} (ha : Inn a a') : Inn (hidI a) (hidI a') := by
  have h1 := q_le.1 ha.lo; have h2 := q_le.1 ha.hi
  obtain ⟨e1, e2⟩ := hidI_k a
  obtain ⟨e3, e4⟩ := hidI_k a'
  exact ⟨q_le.2 (by rw [e1, e3]; omega), q_le.2 (by rw [e2, e4]; omega), hidI_rt ha.rt⟩
theorem step_inn {o : Op} {v v' : List I} (hm : MonoO o) (hv : ∀ i, Inn (gt v i) (gt v' i)) (h : (stepK KkR o v' 0).2 = 0) : ∃ r, stepK KkR o v 0 = (r, 0) ∧ Inn r (stepK KkR o v' 0).1 := by
  cases o with
  | add i j => exact add_inn (hv i) (hv j) h
  | sub i j => exact sub_inn (hv i) (hv j) h
  | mul i j => exact mul_inn (hv i) (hv j) h
  | div i j => exact div_inn (hv i) (hv j) h
  | max i j =>
    obtain ⟨_, _, _, e⟩ := max_0 h
    refine ⟨maxI (gt v i) (gt v j), ask_mk (by rw [(hv i).rt, (hv j).rt]; rfl) rfl, ?_⟩
    show Inn _ (cMax 0 (gt v' i) (gt v' j)).1
    rw [e]; exact max_inn (hv i) (hv j)
  | sqr i => exact sqr_inn (hv i) h
  | sqrt i => exact sqrt_inn (hv i) h
  | neg i =>
    obtain ⟨_, _, e⟩ := neg_0 h
    refine ⟨turnI (gt v i), ask_mk (hv i).rt rfl, ?_⟩
    show Inn _ (cNeg 0 (gt v' i)).1
    rw [e]; exact turn_inn (hv i)
  | num x => exact ⟨⟨x, x⟩, rfl, Inn.refl (decide_eq_true (Int.le_refl _))⟩
  | lit a => exact ⟨a, rfl, Inn.refl hm⟩
  | fn f i => exact ⟨_, rfl, hm _ _ (hv i)⟩
  | fn2 f i j => exact ⟨_, rfl, hm _ _ _ _ (hv i) (hv j)⟩
  | kept l u i => exact ⟨_, rfl, kept_inn l u (hv i)⟩
  | wi i => exact hm.elim
  | hid i => exact ⟨_, rfl, hid_inn (hv i)⟩
theorem eval_inn : ∀ {l : List Op} {v v' : List I}, (∀ o ∈ l, MonoO o) → (∀ i, Inn (gt v i) (gt v' i)) → (evalK KkR l v' 0).2 = 0 → (evalK KkR l v 0).2 = 0 ∧ ∀ i, Inn (gt (evalK KkR l v 0).1 i) (gt (evalK KkR l v' 0).1 i)
  | [], _, _, _, hv, _ => ⟨rfl, hv⟩
  | o :: l, v, v', hm, hv, h => by
    have h1 : (stepK KkR o v' 0).2 = 0 := by
      apply Decidable.byContradiction
      intro k
      have := eval_kept (l := l) (v := (stepK KkR o v' 0).1 :: v') k
      have h' : (evalK KkR l ((stepK KkR o v' 0).1 :: v') (stepK KkR o v' 0).2).2 = 0 := h
      rw [this] at h'
      exact k h'
    obtain ⟨r, e, hr⟩ := step_inn (hm o (by simp)) hv h1
    have h' : (evalK KkR l ((stepK KkR o v' 0).1 :: v') (stepK KkR o v' 0).2).2 = 0 := h
    rw [h1] at h'
    have ih := eval_inn (l := l) (v := r :: v) (fun o ho => hm o (by simp [ho])) (fun i => by
      cases i with
      | zero => exact hr
      | succ i => exact hv i) h'
    rw [eval_cons e, eval_cons (show stepK KkR o v' 0 = ((stepK KkR o v' 0).1, 0) from Prod.ext rfl h1)]
    exact ih
def nnS (o : Op) (s : List Bool) : Bool :=
  match o with
  | .add i j | .mul i j | .div i j => s.getD i false && s.getD j false
  | .max i j => s.getD i false || s.getD j false
  | .sqr _ | .sqrt _ | .hid _ => true
  | .num x => decide (F.zero.k ≤ x.k)
  | .lit a => decide (F.zero.k ≤ a.lo.k)
  | .kept l h _ => decide (F.zero.k ≤ l.k) && decide (F.zero.k ≤ h.k)
  | _ => false
def okS (o : Op) (s : List Bool) : Bool :=
  match o with
  | .sqrt i => s.getD i false
  | .lit a => rt a
  | .fn _ _ | .fn2 _ _ _ => false
  | _ => true
def chk : List Op → List Bool → Bool
  | [], _ => true
  | o :: l, s => okS o s && chk l (nnS o s :: s)
def Flags (s : List Bool) (v : List I) : Prop := ∀ i, s.getD i false = true → 0 ≤ (gt v i).lo.q
theorem nn_q {x : F} (h : F.zero.k ≤ x.k) : 0 ≤ x.q := by rw [← q_zero]; exact q_le.2 h
theorem dn_nn {r : F} {v : Rat} (h : Dn r v) (hv : 0 ≤ v) : 0 ≤ r.q := by rw [← q_zero]; exact h.top F.zero (by rw [q_zero]; exact hv)
theorem fact_nn {o : Op} {s : List Bool} {v : List I} {r : I} (hv : ∀ a ∈ v, rt a = true) (hf : Flags s v) (h : Fact o v r) (hn : nnS o s = true) : 0 ≤ r.lo.q := by
  have g := gt_rt hv
  cases o with
  | add i j =>
    obtain ⟨a, b⟩ := both hn
    have := hf i a; have := hf j b
    exact dn_nn h.1 (by grind)
  | sub i j => exact absurd hn (by simp [nnS])
  | mul i j =>
    obtain ⟨a, b⟩ := both hn
    have a1 := hf i a; have b1 := hf j b
    have a2 := rt_le (g i); have b2 := rt_le (g j)
    have h' : AllR r _ _ _ _ := h
    rw [← q_zero]
    refine h'.top ?_ ?_ ?_ ?_ <;> (rw [q_zero]; exact Rat.mul_nonneg (by grind) (by grind))
  | div i j =>
    obtain ⟨a, b⟩ := both hn
    have a1 := hf i a; have b1 := hf j b
    have a2 := rt_le (g i); have b2 := rt_le (g j)
    have h' : AllR r _ _ _ _ := h.2
    have n := no_zero (g j) h.1
    have dq : ∀ {x y : Rat}, 0 ≤ x → 0 < y → 0 ≤ x / y := fun hx hy => by rw [Rat.div_def]; exact Rat.mul_nonneg hx (Rat.le_of_lt (Rat.inv_pos.2 hy))
    rw [← q_zero]
    refine h'.top ?_ ?_ ?_ ?_ <;> (rw [q_zero]; exact dq (by grind) (by grind))
  | max i j =>
    rw [show r = _ from h]
    show 0 ≤ (mxF _ _).q
    have m := mxF_q (gt v i).lo (gt v j).lo
    rcases Bool.or_eq_true _ _ ▸ hn with a | a
    · have := hf i a; grind
    · have := hf j a; grind
  | sqr i =>
    obtain ⟨b1, _, _⟩ := bare_gen (g i)
    exact dn_nn h.1 (Rat.mul_nonneg b1 b1)
  | sqrt i => exact h.2.1.nn
  | neg i => exact absurd hn (by simp [nnS])
  | num x => rw [show r = _ from h]; exact nn_q (of_decide_eq_true hn)
  | lit a => rw [show r = _ from h]; exact nn_q (of_decide_eq_true hn)
  | fn f i => exact absurd hn (by simp [nnS])
  | fn2 f i j => exact absurd hn (by simp [nnS])
  | kept l u i =>
    rw [show r = _ from h]
    obtain ⟨a, b⟩ := both hn
    have a' := of_decide_eq_true a; have b' := of_decide_eq_true b
    exact nn_q (by rw [(keptI_k _ l u).1]; omega)
  | wi i => exact absurd hn (by simp [nnS])
  | hid i =>
    rw [show r = _ from h]
    have z : (toF 0).k = F.zero.k := by decide +kernel
    exact nn_q (by rw [(hidI_k _).1]; omega)
theorem chk_cond : ∀ {l : List Op} {s : List Bool} {v : List I}, chk l s = true → Flags s v → (∀ a ∈ v, rt a = true) → CondE l v
  | [], _, _, _, _, _ => trivial
  | o :: l, s, v, hc, hf, hv => by
    obtain ⟨h1, h2⟩ := both hc
    refine ⟨?_, fun r fr hr => chk_cond (l := l) h2 (fun i hi => ?_) fun a ha => ?_⟩
    · cases o with
      | sqrt i => exact hf i h1
      | lit a => exact h1
      | fn f i => exact absurd h1 (by simp [okS])
      | fn2 f i j => exact absurd h1 (by simp [okS])
      | _ => trivial
    · cases i with
      | zero => exact fact_nn hv hf fr hi
      | succ i => exact hf i hi
    · rcases List.mem_cons.1 ha with rfl | ha
      · exact hr
      · exact hv a ha
theorem eval_er' {l : List Op} {s : List Bool} {v : List I} (hc : chk l s = true) (hf : Flags s v) (hv : ∀ a ∈ v, rt a = true) : Er (evalK KkR l v 0).2 := eval_er hv (chk_cond hc hf hv)
end Bu
namespace Bu
set_option linter.all false
open Rx Go

def cN32 : F := toF 4751297606873776128
/-- a part of 2^32 - 1 -/
def frT (n : Int) : F := sf (fdv (toF (FloatKind.f64.nearest n)) cN32)
def bwP (a b : F) (n : Int) : F := sf (fmu (sf (fsu b a)) (frT n))
def bwX (a b : F) (n : Int) : F := sf (fad a (bwP a b n))
def bwF (a b : F) (n : Int) : F := bif decide ((bwX a b n).k < a.k) then a else bif decide (b.k < (bwX a b n).k) then b else bwX a b n
def bwO (a b : F) (n : Int) : Obs := so (fad a (bwP a b n)) ++ so (fmu (sf (fsu b a)) (frT n)) ++ so (fdv (toF (FloatKind.f64.nearest n)) cN32) ++ [(rightB (FloatKind.f64.nearest n), true)] ++ so (fsu b a)
def wN32 (n : Int) : Bool := decide (0 ≤ n ∧ n ≤ 4294967295)
/-- two numbers whose difference is a number: D -/
def pairB (a b : F) : Bool := decide (a.k < b.k) && decide (F.zero.k < (sf (fsu b a)).k) && obsB (so (fsu b a)) && decide ((sf (fsu b a)).k ≤ (toF 4625196817309499392).k) && decide ((toF 4625196817309499392).neg.k ≤ a.k) && decide (a.k ≤ (toF 4625196817309499392).k) && decide (fmu (sf (fsu b a)) F.zero = some F.zero.b)
set_option maxRecDepth 100000 in
theorem cN32_z : cN32.z = 4294967295 * (S : Int) ∧ 0 < cN32.k := ⟨of_decide_eq_true (by decide +kernel), of_decide_eq_true (by decide +kernel)⟩
theorem c16_q : (toF 4625196817309499392).q = 16 := q_int (n := 16) (by decide +kernel)
theorem frT_ok {n : Int} (h : wN32 n = true) : ∃ t : F, fdv (toF (FloatKind.f64.nearest n)) cN32 = some t.b ∧ 0 ≤ t.k ∧ t.k ≤ one64.k ∧ rightB (FloatKind.f64.nearest n) = true := by
  have hn := of_decide_eq_true h
  obtain ⟨m, rfl⟩ := Int.eq_ofNat_of_zero_le hn.1
  by_cases hm : m = 0
  · subst hm
    exact ⟨F.zero, by decide +kernel, by decide +kernel, by decide +kernel, by decide +kernel⟩
  · have hP : P = 4503599627370496 := rfl
    have hz := nat_z (m := m) (by omega)
    have hk : 0 < (F.dy m 0).k := by
      have hS := S_pos
      have h2 : 0 < (F.dy m 0).z := by rw [hz]; exact Int.mul_pos (by omega) (by omega)
      have a := z_sign (F.dy m 0)
      have b := z_zero (F.dy m 0)
      omega
    have hle : (F.dy m 0).z ≤ cN32.z := by rw [hz, cN32_z.1]; exact Int.mul_le_mul_of_nonneg_right (by omega) (by have := S_pos; omega)
    obtain ⟨t, e, t0, t1⟩ := div_le1 hk cN32_z.2 hle one64_nv (by rw [T_num]; omega)
    refine ⟨t, ?_, t0, by rw [one64_k]; omega, by rw [near_int (by omega)]; exact right_F _⟩
    unfold fdv
    rw [near_int (by omega), toF_F]; exact e
theorem mul_le1 {x y : F} (hx : 0 < x.k) (hy : 0 < y.k) (h : y.k ≤ one64.k) : ∃ t : F, fmu x y = some t.b ∧ 0 ≤ t.k ∧ t.k ≤ x.k := by
  have hz : y.z ≤ (S : Int) := by
    have h1 := q_le.2 h
    rw [one_q] at h1
    have h2 := F.q_mul y
    have h3 : (y.z : Rat) ≤ ((S : Int) : Rat) := by
      rw [← h2]
      have := Rat.mul_nonneg (show 0 ≤ 1 - y.q by grind) (Rat.le_of_lt S_gt)
      rw [Rat.intCast_natCast]
      generalize (S : Rat) = s at *
      grind
    exact Rat.intCast_le_intCast.1 h3
  have e := mul_F x y (by omega) (by omega)
  rw [decide_eq_false (show ¬ x.k < 0 by omega), decide_eq_false (show ¬ y.k < 0 by omega)] at e
  have hT := x.hk
  have hn : near (x.z.natAbs * y.z.natAbs) S ≤ x.k.natAbs := by
    refine near_le S_pos ?_
    have a := nvk (c := x) (by omega)
    have b := z_sign x; have c := z_sign y
    have : x.z.natAbs = nv x.k.natAbs := by omega
    rw [this]
    exact Nat.mul_le_mul_left _ (by omega)
  rw [Nat.min_eq_left (by omega), show (false ^^ false) = false from rfl, word_F _ _ (by omega) (by simp), if_neg (by decide)] at e
  exact ⟨_, e, by rw [F.of_k (by omega)]; omega, by rw [F.of_k (by omega)]; omega⟩
theorem bw_ok {a b : F} {n : Int} (hp : pairB a b = true) (h : wN32 n = true) : obsB (bwO a b n) = true := by
  unfold pairB at hp
  simp only [Bool.and_eq_true, decide_eq_true_iff] at hp
  obtain ⟨⟨⟨⟨⟨⟨p1, p2⟩, p3⟩, p4⟩, p5⟩, p6⟩, p7⟩ := hp
  obtain ⟨t, e1, t0, t1, hr⟩ := frT_ok h
  obtain ⟨o1, o2⟩ := so_ok e1
  have eT : frT n = t := o2
  have p2' : 0 < (sf (fsu b a)).k := p2
  have hm : ∃ p : F, fmu (sf (fsu b a)) t = some p.b ∧ 0 ≤ p.k ∧ p.k ≤ (sf (fsu b a)).k := by
    by_cases ht : t.k = 0
    · have : t = F.zero := F.ext' ht
      subst this
      exact ⟨F.zero, p7, Int.le_refl _, by show (0 : Int) ≤ _; omega⟩
    · exact mul_le1 p2' (by omega) t1
  obtain ⟨p, e2, q0, q1⟩ := hm
  obtain ⟨o3, o4⟩ := so_ok e2
  have eP : bwP a b n = p := by unfold bwP; rw [eT]; exact o4
  have c := c16_q
  have a1 := q_le.2 p6; have a2 := q_le.2 p5; have a3 := q_le.2 (Int.le_trans q1 p4)
  have a4 : 0 ≤ p.q := by rw [← q_zero]; exact q_le.2 q0
  rw [q_neg] at a2
  obtain ⟨g, hg⟩ := big_ex
  obtain ⟨D, e3, _⟩ := add_nr (x := a) (y := p) (g := g) (by grind) (by grind)
  obtain ⟨o5, _⟩ := so_ok (show fad a p = some D.b from e3)
  unfold bwO
  rw [eP, eT]
  exact ob2 (ob2 (ob2 (ob2 o5 o3) o1) (obsB_yes hr obsB_nil)) p3
theorem bwF_in {a b : F} {n : Int} (h : a.k ≤ b.k) : a.k ≤ (bwF a b n).k ∧ (bwF a b n).k ≤ b.k := by
  unfold bwF
  cases h1 : decide ((bwX a b n).k < a.k)
  · have g1 := of_decide_eq_false h1
    cases h2 : decide (b.k < (bwX a b n).k)
    · have g2 := of_decide_eq_false h2
      simp only [cond_false]; omega
    · exact ⟨h, Int.le_refl _⟩
  · exact ⟨Int.le_refl _, h⟩
def kBw (f : F → F → Int → F) (p : F → F → Bool) (u : Int → Bool) : List SV → Dec → Option (SV × Dec × Obs)
  | [.fl a, .fl b, x], ds => match intS x with
    | some (.u32, n) => some (.fl (f a b n), ds, [(p a b, true), (u n, true)])
    | _ => none
  | _, _ => none
theorem fad_zero (x : F) : fad x (toF 0) = some x.b := by
  unfold fad
  have hz : (toF 0).z = 0 := by decide +kernel
  rw [add_F, hz, Int.add_zero]
  by_cases h : x.k = 0
  · have e : x = F.zero := F.ext' h
    subst e
    rw [if_pos (by rw [F.zero_z])]; rfl
  · have hne : x.z ≠ 0 := fun k => h ((z_zero _).1 k)
    rw [if_neg hne]
    congr 1
    rw [z_natAbs', near_exact (r := x.k.natAbs) (by decide) (by omega)]
    have := x.hk
    rw [show min x.k.natAbs T = x.k.natAbs from by omega, ← word_sign _ h]
    congr 1
    exact decide_eq_decide.2 (z_sign _)
def pt (x : F) : I := ⟨x, x⟩
def kPt : List SV → Dec → Option (SV × Dec × Obs)
  | [.fl a], ds => some (.agg [.fl a, .fl a], ds, [])
  | _, _ => none
end Bu
namespace Go.Proofs.YtgjohjgmlleebaaGreat
set_option linter.all false
open Go.RowKit Bu Rx

theorem bwRun (a b : F) (n : Int) : valR ((run Tryz.prog EG OIM 80).1 19 [.fl a, .fl b, .si .u32 n] [] (some [false, false])) = some (.fl (bwX a b n), some [], (decide (b.k < (bwX a b n).k), false) :: (decide ((bwX a b n).k < a.k), false) :: bwO a b n) := by kernel_rfl
theorem bwRun1 (a b : F) (n : Int) : valR ((run Tryz.prog EG OIM 80).1 19 [.fl a, .fl b, .si .u32 n] [] (some [true])) = some (.fl a, some [], (decide ((bwX a b n).k < a.k), true) :: bwO a b n) := by kernel_rfl
theorem bwRun2 (a b : F) (n : Int) : valR ((run Tryz.prog EG OIM 80).1 19 [.fl a, .fl b, .si .u32 n] [] (some [false, true])) = some (.fl b, some [], (decide (b.k < (bwX a b n).k), true) :: (decide ((bwX a b n).k < a.k), false) :: bwO a b n) := by kernel_rfl
theorem bwG : PlainOk Tryz.prog 19 (kBw bwF pairB wN32) := by
  intro args ds x ds' ob h ho
  unfold kBw at h
  split at h
  · rename_i a b u
    split at h
    · rename_i n hk
      simp only [Option.some.injEq, Prod.mk.injEq] at h; obtain ⟨rfl, _, rfl⟩ := h
      have hp : pairB a b = true := ho _ (List.mem_cons_self ..)
      have hn : wN32 n = true := ho (_, true) (List.mem_cons_of_mem _ (List.mem_cons_self ..))
      have hO := bw_ok hp hn
      refine ⟨[.float .f64 a.b, .float .f64 b.b, .int .u32 n], .float .f64 (bwF a b n).b, plains_cons rfl (plains_cons rfl (plains_cons (intS_plain hk) plains_nil)), rfl, fun w => ?_⟩
      unfold bwF
      cases h1 : decide ((bwX a b n).k < a.k)
      · cases h2 : decide (b.k < (bwX a b n).k)
        · exact calls_of_val goodG oracleIM 80 (bwRun a b n) (ObsOk.of_B (obsB_yes h2 (obsB_yes h1 hO))) rfl rfl w
        · exact calls_of_val goodG oracleIM 80 (bwRun2 a b n) (ObsOk.of_B (obsB_yes h2 (obsB_yes h1 hO))) rfl rfl w
      · exact calls_of_val goodG oracleIM 80 (bwRun1 a b n) (ObsOk.of_B (obsB_yes h1 hO)) rfl rfl w
    · cases h
  · cases h
theorem ptRun (a : F) : valR ((run Tryz.prog EG OIM 80).1 20 [.fl a] [] (some [])) = some (.agg [.fl (sf (fad a (toF 0))), .fl (sf (fad a (toF 0)))], some [], so (fad a (toF 0)) ++ so (fad a (toF 0))) := by kernel_rfl
theorem ptG : PlainOk Tryz.prog 20 kPt := by
  intro args ds x ds' ob h ho
  unfold kPt at h
  split at h
  · rename_i a
    simp only [Option.some.injEq, Prod.mk.injEq] at h; obtain ⟨rfl, _, rfl⟩ := h
    obtain ⟨o1, o2⟩ := so_ok (fad_zero a)
    refine ⟨[.float .f64 a.b], _, rfl, rfl, fun w => ?_⟩
    have r := ptRun a
    rw [o2] at r
    exact calls_of_val goodG oracleIM 80 r (ObsOk.of_B (ob2 o1 o1)) rfl rfl w
  · cases h
end Go.Proofs.YtgjohjgmlleebaaGreat
namespace Bu
set_option linter.all false
open Rx Go

def z64 : F := toF 0
def PIc : I := ⟨pi64, (nextF pi64 true).1⟩
structure V3 where
  x : I
  y : I
  z : I
def V3.zero : V3 := ⟨I.zero, I.zero, I.zero⟩
def V3.sv (v : V3) : SV := .agg [.fl v.x.lo, .fl v.x.hi, .fl v.y.lo, .fl v.y.hi, .fl v.z.lo, .fl v.z.hi]
def kAbs : List SV → Dec → Option (SV × Dec × Obs)
  | [.fl x], ds => some (.fl x.abs, ds, [])
  | _, _ => none
/-- of  -/
def unP (x y z : F) : List Op := [.num (x), .num (y), .num (z), .sqr 2, .sqr 2, .add 1 0, .sqr 3, .add 1 0, .sqrt 0, .div 8 0, .wi 0, .div 9 2, .wi 0, .div 10 4, .wi 0]
/-- of X, Y, Z, al, sin, cos, A -/
def drP1 : List Op := [.num (one64), .num (z64), .mul 5 8, .mul 6 8, .num (one64), .sqr 2, .sqr 2, .add 1 0, .sqr 12, .add 1 0, .sqrt 0, .div 6 0, .mul 0 9, .mul 1 9, .mul 2 18, .kept mone64 one64 2, .kept mone64 one64 2, .kept z64 one64 2, .sqr 2, .sqr 2, .add 1 0]
/-- of X, Y, Z, al, sin, cos, A -/
def drTa : List Op := [.num (one64), .num (z64), .mul 5 8, .mul 6 8, .num (one64), .sqr 2, .sqr 2, .add 1 0, .sqr 12, .add 1 0, .sqrt 0, .div 6 0, .mul 0 9, .mul 1 9, .mul 2 18, .kept mone64 one64 2, .kept mone64 one64 2, .kept z64 one64 2, .sqr 2, .sqr 2, .add 1 0, .lit (I.zero), .lit (I.zero), .lit (I.zero), .num (one64), .lit (I.zero), .lit (I.zero), .lit (I.zero)]
/-- of X, Y, Z, al, sin, cos, A -/
def drTb : List Op := [.num (one64), .num (z64), .mul 5 8, .mul 6 8, .num (one64), .sqr 2, .sqr 2, .add 1 0, .sqr 12, .add 1 0, .sqrt 0, .div 6 0, .mul 0 9, .mul 1 9, .mul 2 18, .kept mone64 one64 2, .kept mone64 one64 2, .kept z64 one64 2, .sqr 2, .sqr 2, .add 1 0, .sqrt 0, .neg 5, .div 0 1, .kept mone64 one64 0, .div 9 3, .kept mone64 one64 0, .lit (I.zero)]
/-- of X, Y, Z, al, sin, cos, A -/
def drA : List Op := [.num (one64), .num (z64), .mul 5 8, .mul 6 8, .num (one64), .sqr 2, .sqr 2, .add 1 0, .sqr 12, .add 1 0, .sqrt 0, .div 6 0, .mul 0 9, .mul 1 9, .mul 2 18, .kept mone64 one64 2, .kept mone64 one64 2, .kept z64 one64 2, .sqr 2, .sqr 2, .add 1 0, .lit (I.zero), .lit (I.zero), .lit (I.zero), .num (one64), .lit (I.zero), .lit (I.zero), .lit (I.zero), .mul 11 0, .mul 11 2, .sub 1 0, .mul 13 6, .mul 16 4, .sub 1 0, .mul 18 7, .mul 18 10, .sub 1 0, .sqrt 37, .mul 0 39, .num (q2), .add 39 22, .mul 1 0, .sqr 3, .sub 42 0, .sub 43 2, .max 1 43, .sqrt 0, .mul 2 0, .mul 10 50, .mul 7 0, .add 2 0, .sqr 0, .sub 8 0, .max 0 51, .sqrt 0, .mul 16 30, .mul 17 29, .mul 18 29, .mul 7 27, .mul 8 25, .mul 9 23, .add 5 2, .add 5 2, .add 5 2, .mul 9 48, .mul 10 48, .mul 11 48, .add 5 2, .add 5 2, .add 5 2, .mul 73 2, .mul 74 2, .max 2 70, .num (one64), .sqr 3, .sqr 3, .add 1 0, .sqr 4, .add 1 0, .sqrt 0, .div 6 0, .mul 0 10, .mul 1 10, .mul 2 10, .kept mone64 one64 2, .kept mone64 one64 2, .kept z64 one64 2]
/-- of X, Y, Z, al, sin, cos, A -/
def drB : List Op := [.num (one64), .num (z64), .mul 5 8, .mul 6 8, .num (one64), .sqr 2, .sqr 2, .add 1 0, .sqr 12, .add 1 0, .sqrt 0, .div 6 0, .mul 0 9, .mul 1 9, .mul 2 18, .kept mone64 one64 2, .kept mone64 one64 2, .kept z64 one64 2, .sqr 2, .sqr 2, .add 1 0, .sqrt 0, .neg 5, .div 0 1, .kept mone64 one64 0, .div 9 3, .kept mone64 one64 0, .lit (I.zero), .mul 11 0, .mul 11 2, .sub 1 0, .mul 13 6, .mul 16 4, .sub 1 0, .mul 18 7, .mul 18 10, .sub 1 0, .sqrt 37, .mul 0 39, .num (q2), .add 39 22, .mul 1 0, .sqr 3, .sub 42 0, .sub 43 2, .max 1 43, .sqrt 0, .mul 2 0, .mul 10 50, .mul 7 0, .add 2 0, .sqr 0, .sub 8 0, .max 0 51, .sqrt 0, .mul 16 30, .mul 17 29, .mul 18 29, .mul 7 27, .mul 8 25, .mul 9 23, .add 5 2, .add 5 2, .add 5 2, .mul 9 48, .mul 10 48, .mul 11 48, .add 5 2, .add 5 2, .add 5 2, .mul 73 2, .mul 74 2, .max 2 70, .num (one64), .sqr 3, .sqr 3, .add 1 0, .sqr 4, .add 1 0, .sqrt 0, .div 6 0, .mul 0 10, .mul 1 10, .mul 2 10, .kept mone64 one64 2, .kept mone64 one64 2, .kept z64 one64 2]
end Bu
namespace Go.Proofs.YtgjohjgmlleebaaGreat
set_option linter.all false
open Go.RowKit Bu Rx

def OCL (K : Kk) : List (Nat × OF) := [(57, kC (aII K.add)), (58, kC (aII K.sub)), (61, kC (aII K.mul)), (60, kC (aII K.div)), (169, kC (aII K.max)), (59, kC (aI K.sqr)), (56, kC (aI K.sqrt))] ++
  [(68, kC (aI K.neg))] ++
  [(55, kC (aF K.num)), (42, plainO (kBI rt)), (74, plainO oRight), (73, plainO kAbs), (78, plainO (oI1 withI)), (198, plainO (oConst (.agg [.fl PIc.lo, .fl PIc.hi])))]
theorem absG : PlainOk Tryz.prog 73 kAbs := by
  intro args ds x ds' ob h ho
  unfold kAbs at h
  split at h
  · rename_i x
    simp only [Option.some.injEq, Prod.mk.injEq] at h
    obtain ⟨rfl, _, _⟩ := h
    exact ⟨[.float .f64 x.b], _, rfl, rfl, fun w => (abs_F x w).mono fun e w' ⟨h1, h2⟩ => ⟨h1, h2 ▸ Below.refl _ _⟩⟩
  · cases h
theorem vwRun0 (a b : F) : valR ((run Tryz.prog EG OIM 60).1 78 [.agg [.fl a, .fl b]] [] (some [true])) = some (.agg [.fl F.zero, .fl F.zero], some [], [(decide ((mnF b one64).k < (mxF a mone64).k), true)]) := by kernel_rfl
theorem vwRun1 (a b : F) : valR ((run Tryz.prog EG OIM 60).1 78 [.agg [.fl a, .fl b]] [] (some [false])) = some (.agg [.fl (mxF a mone64), .fl (mnF b one64)], some [], [(decide ((mnF b one64).k < (mxF a mone64).k), false)]) := by kernel_rfl
theorem vwG : PlainOk Tryz.prog 78 (oI1 withI) := by
  intro args ds x ds' ob h ho
  unfold oI1 at h
  split at h
  · rename_i a b
    simp only [Option.some.injEq, Prod.mk.injEq] at h
    obtain ⟨rfl, _, _⟩ := h
    refine ⟨[.agg #[.float .f64 a.b, .float .f64 b.b]], _, rfl, rfl, fun w => ?_⟩
    cases h1 : decide ((mnF b one64).k < (mxF a mone64).k)
    · rw [show withI ⟨a, b⟩ = ⟨mxF a mone64, mnF b one64⟩ from by simp only [withI, h1, cond_false]]
      exact calls_of_val goodG oracleIM 60 (vwRun1 a b) (ObsOk.of_B (obsB_yes h1 obsB_nil)) rfl rfl w
    · rw [show withI ⟨a, b⟩ = ⟨F.zero, F.zero⟩ from by simp only [withI, I.zero, h1, cond_true]]
      exact calls_of_val goodG oracleIM 60 (vwRun0 a b) (ObsOk.of_B (obsB_yes h1 obsB_nil)) rfl rfl w
  · cases h
def OPi : OracleF := lookO [(52, plainO (kNx nextF))]
theorem oraclePi : OracleOk Tryz.prog OPi := .cons nextG.of (.nil _)
def OPiK (f : F → Bool → F × Int) : OracleF := lookO [(52, plainO (kNx f))]
theorem piRun (f : F → Bool → F × Int) : valR ((run Tryz.prog EG (OPiK f) 60).1 198 [] [] (some [])) = some (.agg [.fl pi64, .fl (f pi64 true).1], some [], []) := by kernel_rfl
theorem piG : PlainOk Tryz.prog 198 (oConst (.agg [.fl PIc.lo, .fl PIc.hi])) := constG rfl fun w => calls_of_val goodG oraclePi 60 (piRun nextF) (ObsOk.of_B obsB_nil) rfl rfl w
theorem oracleCL : OracleOk Tryz.prog (lookO (OCL KkR)) :=
  .cons addC <| .cons subC <| .cons mulC <| .cons divC <| .cons cmax_I <| .cons sqrC <| .cons csqrt_I <|
  .cons negC <|
  .cons numC <| .cons irtK.of <| .cons rightG.of <| .cons absG.of <| .cons vwG.of <| .cons piG.of <| .nil _
end Go.Proofs.YtgjohjgmlleebaaGreat
namespace Bu
set_option linter.all false
open Rx Go

def minA : F := toF 4584664420663164928
def tiny64 : F := toF 4318952042648305664
def huge64 : F := toF 4895412794951729152
def neB (e : Int) : Bool := !(e == 0)
def unE (K : Kk) (x y z : F) : List I × Int := evalK K (unP x y z) [] 0
def unV (K : Kk) (x y z : F) : V3 := ⟨gt (unE K x y z).1 4, gt (unE K x y z).1 2, gt (unE K x y z).1 0⟩
def mostF (x y z : F) : F := mxF (mxF x.abs y.abs) z.abs
def unB (x y z : F) : Bool := !decide ((mostF x y z).k < tiny64.k) && !decide (huge64.k < (mostF x y z).k)
def kUn (f : F → F → F → V3) (p : F → F → F → Bool) : List SV → Dec → Option (SV × Dec × Obs)
  | [.agg [.fl x, .fl y, .fl z]], ds => (takeB ds (p x y z)).map fun r => (bif r.1 then .tup [(f x y z).sv, .i .i64 0] else .tup [V3.zero.sv, .i .i64 50], r.2.1, r.2.2)
  | _, _ => none
def alO (al : I) : Obs := [(decide (al.hi.k ≤ one64.k), true), (decide (minA.k ≤ al.lo.k), true), (rt al, true)]
def drEnv (N : Kq) (v : V3) (al : I) (a b : Int) : List I := [N.uo a, N.co (N.uo b), N.si (N.uo b), al, v.z, v.y, v.x]
def dirO (v : V3) : Obs := [(decide (v.z.hi.k ≤ one64.k), true), (decide (z64.k ≤ v.z.lo.k), true), (decide (v.y.hi.k ≤ one64.k), true), (decide (mone64.k ≤ v.y.lo.k), true), (decide (v.x.hi.k ≤ one64.k), true), (decide (mone64.k ≤ v.x.lo.k), true), (rt v.z, true), (rt v.y, true), (rt v.x, true)]
def drQ (K : Kk) (v : List I) : I := gt (evalK K drP1 v 0).1 0
def drV (K : Kk) (p : List Op) (v : List I) : V3 := ⟨gt (evalK K p v 0).1 2, gt (evalK K p v 0).1 1, gt (evalK K p v 0).1 0⟩
def drX (K : Kk) (t p : List Op) (v : List I) : V3 × Int := bif neB (evalK K t v 0).2 then (V3.zero, (evalK K t v 0).2) else bif neB (evalK K p v 0).2 then (V3.zero, (evalK K p v 0).2) else (drV K p v, 0)
def drN (K : Kk) (v : List I) : V3 × Int := (V3.zero, bif neB (evalK K drP1 v 0).2 then (evalK K drP1 v 0).2 else 11)
def drR (K : Kk) (v : List I) : V3 × Int := bif decide ((drQ K v).hi.k = z64.k) then drX K drTa drA v else bif decide (z64.k < (drQ K v).lo.k) then drX K drTb drB v else drN K v
def drO (N : Kq) (v : V3) (al : I) (a b : Int) : Obs := [(N.u a, true), (N.ib (N.uo b), true), (N.u b, true)] ++ dirO v ++ alO al
def drOw (v : V3) (al : I) : Obs := [(rt v.z, true), (rt v.y, true), (rt v.x, true), (decide (minA.k ≤ al.lo.k), true), (rt al, true)]
/-- an alpha beyond 1 is told -/
def kVd (f : V3 → I → Int → Int → V3 × Int) (o : V3 → I → Int → Int → Obs) : List SV → Dec → Option (SV × Dec × Obs)
  | [.agg [.fl a, .fl b, .fl c, .fl d, .fl e, .fl f'], .agg [.fl g, .fl h], x, y], ds => match intS x, intS y with
    | some (.u64, n), some (.u64, m) => (takeB ds (decide (h.k ≤ one64.k))).map fun r => (bif r.1 then .tup [(f ⟨⟨a, b⟩, ⟨c, d⟩, ⟨e, f'⟩⟩ ⟨g, h⟩ n m).1.sv, .si .i64 (f ⟨⟨a, b⟩, ⟨c, d⟩, ⟨e, f'⟩⟩ ⟨g, h⟩ n m).2] else .tup [V3.zero.sv, .i .i64 2], r.2.1,
      (bif r.1 then o ⟨⟨a, b⟩, ⟨c, d⟩, ⟨e, f'⟩⟩ ⟨g, h⟩ n m else drOw ⟨⟨a, b⟩, ⟨c, d⟩, ⟨e, f'⟩⟩ ⟨g, h⟩) ++ r.2.2)
    | _, _ => none
  | _, _ => none
end Bu
namespace Go.Proofs.YtgjohjgmlleebaaGreat
set_option linter.all false
open Go.RowKit Bu Rx

def ivS (a : I) : SV := .agg [.fl a.lo, .fl a.hi]
theorem unRun (K : Kk) (x y z : F) : valR ((run Tryz.prog EG (lookO (OCL K)) 80).1 33 [.agg [.fl x, .fl y, .fl z]] [] (some [false, false])) = some (.tup [(unV K x y z).sv, .i .i64 0], some [], [(decide (huge64.k < (mostF x y z).k), false), (decide ((mostF x y z).k < tiny64.k), false)]) := by kernel_rfl
theorem unRun1 (K : Kk) (x y z : F) : valR ((run Tryz.prog EG (lookO (OCL K)) 80).1 33 [.agg [.fl x, .fl y, .fl z]] [] (some [true])) = some (.tup [V3.zero.sv, .i .i64 50], some [], [(decide ((mostF x y z).k < tiny64.k), true)]) := by kernel_rfl
theorem unRun2 (K : Kk) (x y z : F) : valR ((run Tryz.prog EG (lookO (OCL K)) 80).1 33 [.agg [.fl x, .fl y, .fl z]] [] (some [false, true])) = some (.tup [V3.zero.sv, .i .i64 50], some [], [(decide (huge64.k < (mostF x y z).k), true), (decide ((mostF x y z).k < tiny64.k), false)]) := by kernel_rfl
theorem unG : PlainOk Tryz.prog 33 (kUn (unV KkR) unB) := by
  intro args ds x ds' ob h ho
  unfold kUn at h
  split at h
  · rename_i x y z
    simp only [Option.map_eq_some_iff, Prod.mk.injEq] at h
    obtain ⟨⟨r, e, o⟩, h1, rfl, rfl, rfl⟩ := h
    have hd : r = unB x y z := takeB_ok h1 ho
    subst hd
    unfold unB
    cases k1 : decide ((mostF x y z).k < tiny64.k)
    · cases k2 : decide (huge64.k < (mostF x y z).k)
      · exact ⟨[.agg #[.float .f64 x.b, .float .f64 y.b, .float .f64 z.b]], _, rfl, rfl, fun w => calls_of_val goodG oracleCL 80 (unRun KkR x y z) (ObsOk.of_B (obsB_yes k2 (obsB_yes k1 obsB_nil))) rfl rfl w⟩
      · exact ⟨[.agg #[.float .f64 x.b, .float .f64 y.b, .float .f64 z.b]], _, rfl, rfl, fun w => calls_of_val goodG oracleCL 80 (unRun2 KkR x y z) (ObsOk.of_B (obsB_yes k2 (obsB_yes k1 obsB_nil))) rfl rfl w⟩
    · exact ⟨[.agg #[.float .f64 x.b, .float .f64 y.b, .float .f64 z.b]], _, rfl, rfl, fun w => calls_of_val goodG oracleCL 80 (unRun1 KkR x y z) (ObsOk.of_B (obsB_yes k1 obsB_nil)) rfl rfl w⟩
  · cases h
end Go.Proofs.YtgjohjgmlleebaaGreat
namespace Go.Proofs.YtgjohjgmlleebaaGreat
set_option linter.all false
open Go.RowKit Bu Rx

def ODR (K : Kk) (N : Kq) : OracleF := lookO (OCL K ++ [(167, plainO (kSC N.ib N.si N.co)), (26, plainO (kOf N.uo N.u))])
def drA0 (v : V3) (al : I) (a b : Int) : List SV := [v.sv, ivS al, .si .u64 a, .si .u64 b]
def t13 : List Bool := [true, true, true, true, true, true, true, true, true, true, true, true, true]
/-- what comes ahead of the draw of the first number -/
def drOq (N : Kq) (v : V3) (al : I) (b : Int) : Obs := (N.ib (N.uo b), true) :: (N.u b, true) :: (dirO v ++ alO al)
theorem drRunA0 (K : Kk) (N : Kq) (v : V3) (al : I) (a b : Int) : valR ((run Tryz.prog EG (ODR K N) 80).1 117 (drA0 v al a b) [] (some (t13 ++ [true, true, false]))) =
    some (.tup [V3.zero.sv, .si .i64 (evalK K drTa (drEnv N v al a b) 0).2], some [], (decide ((evalK K drTa (drEnv N v al a b) 0).2 = 0), false) :: (neB (evalK K drTa (drEnv N v al a b) 0).2, true) :: (decide ((drQ K (drEnv N v al a b)).hi.k = z64.k), true) :: drOq N v al b) := by kernel_rfl
theorem drRunA1 (K : Kk) (N : Kq) (v : V3) (al : I) (a b : Int) : valR ((run Tryz.prog EG (ODR K N) 80).1 117 (drA0 v al a b) [] (some (t13 ++ [true, false, true]))) =
    some (.tup [V3.zero.sv, .si .i64 (evalK K drA (drEnv N v al a b) 0).2], some [], (neB (evalK K drA (drEnv N v al a b) 0).2, true) :: (N.u a, true) :: (neB (evalK K drTa (drEnv N v al a b) 0).2, false) :: (decide ((drQ K (drEnv N v al a b)).hi.k = z64.k), true) :: drOq N v al b) := by kernel_rfl
theorem drRunA2 (K : Kk) (N : Kq) (v : V3) (al : I) (a b : Int) : valR ((run Tryz.prog EG (ODR K N) 80).1 117 (drA0 v al a b) [] (some (t13 ++ [true, false, false]))) =
    some (.tup [(drV K drA (drEnv N v al a b)).sv, .i .i64 0], some [], (neB (evalK K drA (drEnv N v al a b) 0).2, false) :: (N.u a, true) :: (neB (evalK K drTa (drEnv N v al a b) 0).2, false) :: (decide ((drQ K (drEnv N v al a b)).hi.k = z64.k), true) :: drOq N v al b) := by kernel_rfl
theorem drRunB0 (K : Kk) (N : Kq) (v : V3) (al : I) (a b : Int) : valR ((run Tryz.prog EG (ODR K N) 80).1 117 (drA0 v al a b) [] (some (t13 ++ [false, true, true, false]))) =
    some (.tup [V3.zero.sv, .si .i64 (evalK K drTb (drEnv N v al a b) 0).2], some [], (decide ((evalK K drTb (drEnv N v al a b) 0).2 = 0), false) :: (neB (evalK K drTb (drEnv N v al a b) 0).2, true) :: (decide (z64.k < (drQ K (drEnv N v al a b)).lo.k), true) :: (decide ((drQ K (drEnv N v al a b)).hi.k = z64.k), false) :: drOq N v al b) := by kernel_rfl
theorem drRunB1 (K : Kk) (N : Kq) (v : V3) (al : I) (a b : Int) : valR ((run Tryz.prog EG (ODR K N) 80).1 117 (drA0 v al a b) [] (some (t13 ++ [false, true, false, true]))) =
    some (.tup [V3.zero.sv, .si .i64 (evalK K drB (drEnv N v al a b) 0).2], some [], (neB (evalK K drB (drEnv N v al a b) 0).2, true) :: (N.u a, true) :: (neB (evalK K drTb (drEnv N v al a b) 0).2, false) :: (decide (z64.k < (drQ K (drEnv N v al a b)).lo.k), true) :: (decide ((drQ K (drEnv N v al a b)).hi.k = z64.k), false) :: drOq N v al b) := by kernel_rfl
theorem drRunB2 (K : Kk) (N : Kq) (v : V3) (al : I) (a b : Int) : valR ((run Tryz.prog EG (ODR K N) 80).1 117 (drA0 v al a b) [] (some (t13 ++ [false, true, false, false]))) =
    some (.tup [(drV K drB (drEnv N v al a b)).sv, .i .i64 0], some [], (neB (evalK K drB (drEnv N v al a b) 0).2, false) :: (N.u a, true) :: (neB (evalK K drTb (drEnv N v al a b) 0).2, false) :: (decide (z64.k < (drQ K (drEnv N v al a b)).lo.k), true) :: (decide ((drQ K (drEnv N v al a b)).hi.k = z64.k), false) :: drOq N v al b) := by kernel_rfl
theorem drRunN0 (K : Kk) (N : Kq) (v : V3) (al : I) (a b : Int) : valR ((run Tryz.prog EG (ODR K N) 80).1 117 (drA0 v al a b) [] (some (t13 ++ [false, false, true, false]))) =
    some (.tup [V3.zero.sv, .si .i64 (evalK K drP1 (drEnv N v al a b) 0).2], some [], (decide ((evalK K drP1 (drEnv N v al a b) 0).2 = 0), false) :: (neB (evalK K drP1 (drEnv N v al a b) 0).2, true) :: (decide (z64.k < (drQ K (drEnv N v al a b)).lo.k), false) :: (decide ((drQ K (drEnv N v al a b)).hi.k = z64.k), false) :: drOq N v al b) := by kernel_rfl
theorem drRunN1 (K : Kk) (N : Kq) (v : V3) (al : I) (a b : Int) : valR ((run Tryz.prog EG (ODR K N) 80).1 117 (drA0 v al a b) [] (some (t13 ++ [false, false, false, true]))) =
    some (.tup [V3.zero.sv, .i .i64 11], some [], (decide ((evalK K drP1 (drEnv N v al a b) 0).2 = 0), true) :: (neB (evalK K drP1 (drEnv N v al a b) 0).2, false) :: (decide (z64.k < (drQ K (drEnv N v al a b)).lo.k), false) :: (decide ((drQ K (drEnv N v al a b)).hi.k = z64.k), false) :: drOq N v al b) := by kernel_rfl
/-- alpha beyond 1 -/
theorem drRunW (K : Kk) (N : Kq) (v : V3) (al : I) (a b : Int) : valR ((run Tryz.prog EG (ODR K N) 80).1 117 (drA0 v al a b) [] (some [true, true, false, true, true, true])) =
    some (.tup [V3.zero.sv, .i .i64 2], some [], [(rt v.z, true), (rt v.y, true), (rt v.x, true), (decide (al.hi.k ≤ one64.k), false), (decide (minA.k ≤ al.lo.k), true), (rt al, true)]) := by kernel_rfl
end Go.Proofs.YtgjohjgmlleebaaGreat
namespace Go.Proofs.YtgjohjgmlleebaaGreat
set_option linter.all false
open Go.RowKit Bu Rx

theorem oracleDR : OracleOk Tryz.prog (ODR KkR (KqR atR)) := .cons addC (.cons subC (.cons mulC (.cons divC (.cons cmax_I (.cons sqrC (.cons csqrt_I (.cons negC (.cons numC (.cons irtK.of (.cons rightG.of (.cons absG.of (.cons vwG.of (.cons piG.of (.cons scK.of (.cons unitG.of (.nil _))))))))))))))))
theorem neB_d {e : Int} : decide (e = 0) = !neB e := by unfold neB; by_cases h : e = 0 <;> simp [h]
theorem obsK_c {c b : Bool} {ob : Obs} (h : c = b) (k : ObsOk ob) : ObsOk ((c, b) :: ob) := fun q hq => by
  rcases List.mem_cons.1 hq with rfl | hq
  · exact h
  · exact k q hq
theorem pvT (V : V3) (k : Int) : plain (.tup [V.sv, .i .i64 k]) = some (.tuple #[.agg #[.float .f64 V.x.lo.b, .float .f64 V.x.hi.b, .float .f64 V.y.lo.b, .float .f64 V.y.hi.b, .float .f64 V.z.lo.b, .float .f64 V.z.hi.b], .int .i64 k]) := rfl
def vdG (K : Kk) (N : Kq) (v : V3) (al : I) (a b : Int) : V3 × Int := drR K (drEnv N v al a b)
theorem drG_of (K : Kk) (N : Kq) (hO0 : OracleOk Tryz.prog (ODR K N)) : PlainOk Tryz.prog 117 (kVd (vdG K N) (drO N)) := by
  intro args ds x ds' ob h ho
  unfold kVd at h
  split at h
  · rename_i x1 x2 y1 y2 z1 z2 g1 g2 p1 p2
    split at h
    · rename_i n m hn hm
      simp only [Option.map_eq_some_iff, Prod.mk.injEq] at h
      obtain ⟨⟨r, e, o⟩, h1, rfl, rfl, rfl⟩ := h
      have hd : r = decide (g2.k ≤ one64.k) := takeB_ok h1 fun q hq => ho q (List.mem_append_right _ hq)
      have hO := fun q (hq : q ∈ (bif r then drO N ⟨⟨x1, x2⟩, ⟨y1, y2⟩, ⟨z1, z2⟩⟩ ⟨g1, g2⟩ n m else drOw ⟨⟨x1, x2⟩, ⟨y1, y2⟩, ⟨z1, z2⟩⟩ ⟨g1, g2⟩)) => ho q (List.mem_append_left _ hq)
      generalize hv : (⟨⟨x1, x2⟩, ⟨y1, y2⟩, ⟨z1, z2⟩⟩ : V3) = v at *
      generalize hal : (⟨g1, g2⟩ : I) = al at *
      have e1 : (.agg [.fl x1, .fl x2, .fl y1, .fl y2, .fl z1, .fl z2] : SV) = v.sv := by subst hv; rfl
      have e2 : (.agg [.fl g1, .fl g2] : SV) = ivS al := by subst hal; rfl
      rw [e1, e2]
      have pv : ∀ v : V3, plain v.sv = some (.agg #[.float .f64 v.x.lo.b, .float .f64 v.x.hi.b, .float .f64 v.y.lo.b, .float .f64 v.y.hi.b, .float .f64 v.z.lo.b, .float .f64 v.z.hi.b]) := fun _ => rfl
      have hargs : plains [v.sv, ivS al, p1, p2] = some [.agg #[.float .f64 v.x.lo.b, .float .f64 v.x.hi.b, .float .f64 v.y.lo.b, .float .f64 v.y.hi.b, .float .f64 v.z.lo.b, .float .f64 v.z.hi.b], .agg #[.float .f64 al.lo.b, .float .f64 al.hi.b], .int .u64 n, .int .u64 m] :=
        plains_cons (pv v) (plains_cons rfl (plains_cons (intS_plain hn) (plains_cons (intS_plain hm) plains_nil)))
      have hal2 : al.hi.k = g2.k := by subst hal; rfl
      cases r
      · refine ⟨_, _, hargs, rfl, fun w => ?_⟩
        refine calls_of_val goodG hO0 80 (drRunW K N v al n m) (fun q hq => ?_) rfl rfl w
        simp only [List.mem_cons, List.not_mem_nil, or_false] at hq
        rcases hq with rfl | rfl | rfl | rfl | rfl | rfl
        · exact hO (_, true) (by simp [drOw])
        · exact hO (_, true) (by simp [drOw])
        · exact hO (_, true) (by simp [drOw])
        · show decide (al.hi.k ≤ one64.k) = false
          rw [hal2]; exact hd.symm
        · exact hO (_, true) (by simp [drOw])
        · exact hO (_, true) (by simp [drOw])
      · have hu : N.u n = true := hO (_, true) (by simp [drO])
        have hq0 : ObsOk (drOq N v al m) := fun q hq => hO q (by
          simp only [cond_true, drO]
          simp only [drOq, List.mem_cons] at hq
          simp only [List.cons_append, List.nil_append, List.append_assoc, List.mem_cons]
          exact .inr hq)
        have pvR : plain (.tup [(vdG K N v al n m).1.sv, .si .i64 (vdG K N v al n m).2]) = some (.tuple #[.agg #[.float .f64 (vdG K N v al n m).1.x.lo.b, .float .f64 (vdG K N v al n m).1.x.hi.b, .float .f64 (vdG K N v al n m).1.y.lo.b, .float .f64 (vdG K N v al n m).1.y.hi.b, .float .f64 (vdG K N v al n m).1.z.lo.b, .float .f64 (vdG K N v al n m).1.z.hi.b], .int .i64 (vdG K N v al n m).2]) := rfl
        refine ⟨_, _, hargs, pvR, fun w => ?_⟩
        unfold vdG drR
        have hE : drEnv N v al n m = drEnv N v al n m := rfl
        cases c1 : decide ((drQ K (drEnv N v al n m)).hi.k = z64.k)
        · cases c2 : decide (z64.k < (drQ K (drEnv N v al n m)).lo.k)
          · simp only [cond_false, drN]
            cases c3 : neB (evalK K drP1 (drEnv N v al n m) 0).2
            · simp only [cond_false]
              exact calls_of_val goodG hO0 80 (drRunN1 K N v al n m) (obsK_c (by rw [neB_d, c3]; rfl) (obsK_c c3 (obsK_c c2 (obsK_c c1 hq0)))) rfl rfl w
            · simp only [cond_true]
              exact calls_of_val goodG hO0 80 (drRunN0 K N v al n m) (obsK_c (by rw [neB_d, c3]; rfl) (obsK_c c3 (obsK_c c2 (obsK_c c1 hq0)))) rfl rfl w
          · simp only [cond_false, cond_true, drX]
            cases c3 : neB (evalK K drTb (drEnv N v al n m) 0).2
            · simp only [cond_false]
              cases c4 : neB (evalK K drB (drEnv N v al n m) 0).2
              · simp only [cond_false]
                have r := drRunB2 K N v al n m
                generalize drV K drB (drEnv N v al n m) = V at r ⊢
                exact calls_of_val goodG hO0 80 r (obsK_c c4 (obsK_c hu (obsK_c c3 (obsK_c c2 (obsK_c c1 hq0))))) rfl (pvT V 0) w
              · simp only [cond_true]
                exact calls_of_val goodG hO0 80 (drRunB1 K N v al n m) (obsK_c c4 (obsK_c hu (obsK_c c3 (obsK_c c2 (obsK_c c1 hq0))))) rfl rfl w
            · simp only [cond_true]
              exact calls_of_val goodG hO0 80 (drRunB0 K N v al n m) (obsK_c (by rw [neB_d, c3]; rfl) (obsK_c c3 (obsK_c c2 (obsK_c c1 hq0)))) rfl rfl w
        · simp only [cond_true, drX]
          cases c3 : neB (evalK K drTa (drEnv N v al n m) 0).2
          · simp only [cond_false]
            cases c4 : neB (evalK K drA (drEnv N v al n m) 0).2
            · simp only [cond_false]
              have r := drRunA2 K N v al n m
              generalize drV K drA (drEnv N v al n m) = V at r ⊢
              exact calls_of_val goodG hO0 80 r (obsK_c c4 (obsK_c hu (obsK_c c3 (obsK_c c1 hq0)))) rfl (pvT V 0) w
            · simp only [cond_true]
              exact calls_of_val goodG hO0 80 (drRunA1 K N v al n m) (obsK_c c4 (obsK_c hu (obsK_c c3 (obsK_c c1 hq0)))) rfl rfl w
          · simp only [cond_true]
            exact calls_of_val goodG hO0 80 (drRunA0 K N v al n m) (obsK_c (by rw [neB_d, c3]; rfl) (obsK_c c3 (obsK_c c1 hq0))) rfl rfl w
    · cases h
  · cases h
def vdR : V3 → I → Int → Int → V3 × Int := vdG KkR (KqR atR)
theorem drG : PlainOk Tryz.prog 117 (kVd vdR (drO (KqR atR))) := drG_of KkR (KqR atR) oracleDR
end Go.Proofs.YtgjohjgmlleebaaGreat
namespace Go.Proofs.YtgjohjgmlleebaaGreat
set_option linter.all false
open Go.RowKit Bu Rx

def OMI (r : I → Bool) (fs fm fa : Bool → F → F → F × Int) : OracleF := lookO [(42, plainO (kBI r)), (103, plainO (kTwo fs)), (107, plainO (kTwo fm)), (101, plainO (kTwo fa))]
theorem irtK2 : PlainOk Tryz.prog 42 (kBI rt) := irightG
theorem oracleMI : OracleOk Tryz.prog (OMI rt dSub dMul dAdd) := .cons irtK2.of (.cons (two_ok sub_F_w).of (.cons (two_ok mul_F_w).of (.cons (two_ok add_F_w).of (.nil _))))
def noMid : SV := .tup [.agg [.fl F.zero, .fl F.zero, .fl F.zero], .i .i64 20]
theorem miRun0 (r : I → Bool) (fs fm fa : Bool → F → F → F × Int) (a b c d e f : F) : valR ((run Tryz.prog EG (OMI r fs fm fa) 80).1 71 [.agg [.fl a, .fl b, .fl c, .fl d, .fl e, .fl f]] [] (some [false])) = some (noMid, some [], [(r ⟨a, b⟩, false)]) := by kernel_rfl
theorem miRun1 (r : I → Bool) (fs fm fa : Bool → F → F → F × Int) (a b c d e f : F) : valR ((run Tryz.prog EG (OMI r fs fm fa) 80).1 71 [.agg [.fl a, .fl b, .fl c, .fl d, .fl e, .fl f]] [] (some [true, false])) = some (noMid, some [], [(r ⟨c, d⟩, false), (r ⟨a, b⟩, true)]) := by kernel_rfl
theorem miRun2 (r : I → Bool) (fs fm fa : Bool → F → F → F × Int) (a b c d e f : F) : valR ((run Tryz.prog EG (OMI r fs fm fa) 80).1 71 [.agg [.fl a, .fl b, .fl c, .fl d, .fl e, .fl f]] [] (some [true, true, false])) = some (noMid, some [], [(r ⟨e, f⟩, false), (r ⟨c, d⟩, true), (r ⟨a, b⟩, true)]) := by kernel_rfl
def m1 (fs : Bool → F → F → F × Int) (a b : F) : F × Int := fs false b a
def m2 (fs fm : Bool → F → F → F × Int) (a b : F) : F × Int := fm false q2 (m1 fs a b).1
def m3 (fs fm fa : Bool → F → F → F × Int) (a b : F) : F × Int := fa false a (m2 fs fm a b).1
def obM (fs fm fa : Bool → F → F → F × Int) (a b : F) : Obs := [(decide ((m3 fs fm fa a b).2 = 0), true), (decide ((m2 fs fm a b).2 = 0), true), (decide ((m1 fs a b).2 = 0), true)]
theorem miRun3 (r : I → Bool) (fs fm fa : Bool → F → F → F × Int) (a b c d e f : F) : valR ((run Tryz.prog EG (OMI r fs fm fa) 80).1 71 [.agg [.fl a, .fl b, .fl c, .fl d, .fl e, .fl f]] [] (some [true, true, true, true, true, true, true, true, true, true, true, false])) =
    some (.tup [.agg [.fl (m3 fs fm fa a b).1, .fl (m3 fs fm fa c d).1, .fl (m3 fs fm fa e f).1], .i .i64 0], some [],
      [(!((m3 fs fm fa e f).2 == 0), false), (decide ((m2 fs fm e f).2 = 0), true), (decide ((m1 fs e f).2 = 0), true)] ++ obM fs fm fa c d ++ obM fs fm fa a b ++ [(r ⟨e, f⟩, true), (r ⟨c, d⟩, true), (r ⟨a, b⟩, true)]) := by kernel_rfl
theorem mid_no {a b : F} (h : rt ⟨a, b⟩ = true) : (m1 dSub a b).2 = 0 ∧ (m2 dSub dMul a b).2 = 0 ∧ (m3 dSub dMul dAdd a b).2 = 0 ∧ a.q ≤ (m3 dSub dMul dAdd a b).1.q ∧ (m3 dSub dMul dAdd a b).1.q ≤ b.q := by
  have hq := q_le.2 (of_decide_eq_true h)
  simp only at hq
  have k2 := consts.2.2.2.2.2.1
  obtain ⟨r1, e1, h1⟩ := @dSub_dn b a F.zero (by rw [q_zero]; grind)
  have g1 : 0 ≤ r1.q := by rw [← q_zero]; exact h1.top F.zero (by rw [q_zero]; grind)
  have p1 : 0 ≤ q2.q * r1.q := Rat.mul_nonneg (by grind) g1
  obtain ⟨r2, e2, h2⟩ := @dMul_dn q2 r1 F.zero (by rw [q_zero]; exact p1)
  have g2 : 0 ≤ r2.q := by rw [← q_zero]; exact h2.top F.zero (by rw [q_zero]; exact p1)
  obtain ⟨r3, e3, h3⟩ := @dAdd_dn a r2 a (by grind)
  have f1 : m1 dSub a b = (r1, 0) := e1
  have f2 : m2 dSub dMul a b = (r2, 0) := by unfold m2; rw [f1]; exact e2
  have f3 : m3 dSub dMul dAdd a b = (r3, 0) := by unfold m3; rw [f2]; exact e3
  rw [f1, f2, f3]
  refine ⟨rfl, rfl, rfl, h3.top a (by grind), ?_⟩
  have l1 := h1.le; have l2 := h2.le; have l3 := h3.le
  have e : q2.q = 1 / 2 := by grind
  rw [e] at l2
  show r3.q ≤ b.q
  grind
theorem midG : PlainOk Tryz.prog 71 (kMid rt3 midM) := by
  intro args ds x ds' ob h ho
  unfold kMid at h
  split at h
  · rename_i a b c d e f
    simp only [Option.map_eq_some_iff, Prod.mk.injEq] at h
    obtain ⟨⟨r, ee, o⟩, h1, rfl, rfl, rfl⟩ := h
    have hd : r = rt3 a b c d e f := takeB_ok h1 ho
    refine ⟨[.agg #[.float .f64 a.b, .float .f64 b.b, .float .f64 c.b, .float .f64 d.b, .float .f64 e.b, .float .f64 f.b]], ?_⟩
    unfold rt3 at hd
    cases g1 : rt ⟨a, b⟩
    · rw [g1, Bool.false_and] at hd; subst hd
      exact ⟨_, rfl, rfl, fun w => calls_of_val goodG oracleMI 80 (miRun0 rt dSub dMul dAdd a b c d e f) (ObsOk.of_B (obsB_yes g1 obsB_nil)) rfl rfl w⟩
    · cases g2 : rt ⟨c, d⟩
      · rw [g1, g2, Bool.false_and, Bool.and_false] at hd; subst hd
        exact ⟨_, rfl, rfl, fun w => calls_of_val goodG oracleMI 80 (miRun1 rt dSub dMul dAdd a b c d e f) (ObsOk.of_B (obsB_yes g2 (obsB_yes g1 obsB_nil))) rfl rfl w⟩
      · cases g3 : rt ⟨e, f⟩
        · rw [g1, g2, g3, Bool.true_and, Bool.true_and] at hd; subst hd
          exact ⟨_, rfl, rfl, fun w => calls_of_val goodG oracleMI 80 (miRun2 rt dSub dMul dAdd a b c d e f) (ObsOk.of_B (obsB_yes g3 (obsB_yes g2 (obsB_yes g1 obsB_nil)))) rfl rfl w⟩
        · rw [g1, g2, g3, Bool.true_and, Bool.true_and] at hd; subst hd
          obtain ⟨a1, a2, a3, _⟩ := mid_no g1
          obtain ⟨b1, b2, b3, _⟩ := mid_no g2
          obtain ⟨c1, c2, c3, _⟩ := mid_no g3
          refine ⟨_, rfl, rfl, fun w => calls_of_val goodG oracleMI 80 (miRun3 rt dSub dMul dAdd a b c d e f) (ObsOk.of_B ?_) rfl rfl w⟩
          have y : ∀ {n : Int}, n = 0 → decide (n = 0) = true := fun h => decide_eq_true h
          exact obsB_yes (by rw [c3]; rfl) (obsB_yes (y c2) (obsB_yes (y c1) (obsB_yes (y b3) (obsB_yes (y b2) (obsB_yes (y b1) (obsB_yes (y a3) (obsB_yes (y a2) (obsB_yes (y a1) (obsB_yes g3 (obsB_yes g2 (obsB_yes g1 obsB_nil)))))))))))
  · cases h
end Go.Proofs.YtgjohjgmlleebaaGreat
namespace Go.Proofs.YtgjohjgmlleebaaGreat
set_option linter.all false
open Go Go.RowKit Go.Shelf

attribute [local go_sem] Oper.semAt_some
/-- a part of a direction: its ends, its least number: as words -/
abbrev Pt3 := Nat × Nat × Nat
/-- what a round keeps: all cells but those of two blocks -/
structure KpL (b1 b2 : Nat) (A B : World) : Prop where
  size : A.heap.size ≤ B.heap.size
  keep : ∀ r o, r ≠ b1 → r ≠ b2 → A.heap[r]? = some o → o.isCells = true → B.heap[r]? = some o
theorem KpL.cell {b1 b2 : Nat} {A B : World} (h : KpL b1 b2 A B) {r i : Nat} {v : Value} (h1 : r ≠ b1) (h2 : r ≠ b2) (hc : A.cell? ⟨r, i, none⟩ = some v) : B.cell? ⟨r, i, none⟩ = some v := by
  obtain ⟨o, ho, hk⟩ := cells_of_cell hc
  have := h.keep r o h1 h2 ho hk
  exact (World.cell?_of_block (w := A) (w' := B) (a := ⟨r, i, none⟩) (by show B.heap[r]? = A.heap[r]?; rw [this, ho])).trans hc
theorem KpL.trans {b1 b2 : Nat} {A B C : World} (h : KpL b1 b2 A B) (k : KpL b1 b2 B C) : KpL b1 b2 A C := ⟨Nat.le_trans h.size k.size, fun r o h1 h2 h3 h4 => k.keep r o h1 h2 (h.keep r o h1 h2 h3 h4) h4⟩
theorem KpL.put {b1 b2 : Nat} (W : World) (l : Nat) (o o' : Obj) (h : W.heap[l]? = some o) (hc : o.isCells = false) : KpL b1 b2 W (W.putObj l o') := by
  have g := grownBy_putObj' W l o'
  refine ⟨g.size, fun r q _ _ hr hq => ?_⟩
  have hl : r ≠ l := by rintro rfl; rw [h] at hr; cases hr; rw [hc] at hq; cases hq
  rw [g.block r (Array.getElem?_eq_some_iff.1 hr).1 (by simp [hl])]; exact hr
end Go.Proofs.YtgjohjgmlleebaaGreat
namespace Go.Proofs.YtgjohjgmlleebaaGreat
set_option linter.all false
open Go Go.RowKit Go.Shelf Bu Rx

attribute [local go_sem] Oper.semAt_some
/-- a part that may be -/
def okP (q : Pt3) : Prop := ∃ a b c : F, q.1 = a.b ∧ q.2.1 = b.b ∧ q.2.2 = c.b ∧ rt ⟨a, b⟩ = true ∧ c.k ≤ a.k ∧ b.k ≤ one64.k
theorem KpL.alloc {b1 b2 : Nat} (W : World) (o : Obj) : KpL b1 b2 W (W.alloc o) := ⟨by rw [World.size_alloc]; omega, fun r q _ _ hr _ => (Below.heap_alloc W _ r (Array.getElem?_eq_some_iff.1 hr).1).trans hr⟩
/-- twelve words of two directions, in memory -/
structure Dirs (W : World) (b : Nat) (e : Nat → {q : Pt3 // okP q}) : Prop where
  c : ∀ j, j < 6 → W.cell? ⟨b, 2 * j, none⟩ = some (.float .f64 (e j).1.1) ∧ W.cell? ⟨b, 2 * j + 1, none⟩ = some (.float .f64 (e j).1.2.1)
  g0 : (e 0).1.2.2 = 13830554455654793216
  g1 : (e 1).1.2.2 = 13830554455654793216
  g2 : (e 2).1.2.2 = 0
  g3 : (e 3).1.2.2 = 13830554455654793216
  g4 : (e 4).1.2.2 = 13830554455654793216
  g5 : (e 5).1.2.2 = 0
theorem Dirs.below {n₀ : Nat} {A B : World} {b : Nat} {e : Nat → {q : Pt3 // okP q}} (h : Dirs A b e) (hb : b < n₀) (k : Below n₀ A B) : Dirs B b e :=
  ⟨fun j hj => ⟨(k.cell (p := ⟨b, 2 * j, none⟩) hb).trans (h.c j hj).1, (k.cell (p := ⟨b, 2 * j + 1, none⟩) hb).trans (h.c j hj).2⟩, h.g0, h.g1, h.g2, h.g3, h.g4, h.g5⟩
end Go.Proofs.YtgjohjgmlleebaaGreat
namespace Go.Proofs.YtgjohjgmlleebaaGreat
set_option linter.all false
open Go Go.RowKit Bu Rx

end Go.Proofs.YtgjohjgmlleebaaGreat
namespace Bu
set_option linter.all false
open Rx Go

/-- within a box, and right -/
def InB (a b : I) : Prop := b.lo.k ≤ a.lo.k ∧ a.hi.k ≤ b.hi.k ∧ a.lo.k ≤ a.hi.k
theorem InB.inn {a b : I} (h : InB a b) : Inn a b := ⟨q_le.2 h.1, q_le.2 h.2.1, decide_eq_true h.2.2⟩
theorem Inn.inB {a b : I} (h : Inn a b) : InB a b := ⟨q_le.1 h.lo, q_le.1 h.hi, of_decide_eq_true h.rt⟩
def monoB : Bu.Op → Bool
  | .lit a => rt a
  | .fn _ _ | .fn2 _ _ _ | .wi _ => false
  | _ => true
theorem mono_all {l : List Bu.Op} (h : l.all monoB = true) : ∀ o ∈ l, MonoO o := by
  intro o ho
  have := List.all_eq_true.1 h o ho
  cases o <;> first | trivial | exact this | cases this
def AllIn : List I → List I → Prop
  | [], [] => True
  | a :: v, b :: w => InB a b ∧ AllIn v w
  | _, _ => False
theorem AllIn.inn : ∀ {v w : List I}, AllIn v w → ∀ i, Inn (gt v i) (gt w i)
  | [], [], _, i => Inn.refl (gt_rt (v := []) (fun _ h => by cases h) i)
  | a :: v, b :: w, h, 0 => h.1.inn
  | a :: v, b :: w, h, i + 1 => AllIn.inn (v := v) (w := w) h.2 i
  | [], _ :: _, h, _ => h.elim
  | _ :: _, [], h, _ => h.elim
theorem box {l : List Bu.Op} {v w : List I} (hm : l.all monoB = true) (hv : AllIn v w) (h : (evalK KkR l w 0).2 = 0) : (evalK KkR l v 0).2 = 0 ∧ ∀ i, Inn (gt (evalK KkR l v 0).1 i) (gt (evalK KkR l w 0).1 i) := eval_inn (mono_all hm) hv.inn h
end Bu
namespace Bu
set_option linter.all false
open Rx Go

def four64 : F := toF 4616189618054758400
def minIo : F := toF 4607463893776728064
def minMt : F := toF 4589168020290535424
def maxMt : F := toF 4625196817309499392
/-- of n, c -/
def frD : List Op := [.num (one64), .sqr 2, .sub 0 1, .sqr 3, .add 1 0, .sqrt 0, .sub 0 6, .add 1 7, .div 1 0, .sqr 0, .add 4 10, .mul 11 0, .sub 0 11, .sub 7 13, .mul 14 0, .add 0 14, .div 3 0, .sqr 0, .num (q2), .mul 0 9, .add 19 2, .mul 1 0, .kept z64 one64 0]
def bz1 : I := ⟨z64, one64⟩
def bn : I := ⟨minIo, four64⟩
def bm : I := ⟨minMt, maxMt⟩
def b11 : I := ⟨mone64, one64⟩
def bzz : I := ⟨toF 4575657221408423936, one64⟩
end Bu
namespace Bu
set_option linter.all false
open Rx Go

/-- a direction by numbers -/
def d64 : F := toF 4580160821035794432
end Bu
namespace Bu
set_option linter.all false
open Rx Go

end Bu
namespace Bu
set_option linter.all false
open Rx Go

theorem sqrt_mk {a : I} (hr : rt a = true) (h0 : 0 ≤ a.lo.q) : ∃ r, cSqrt qSqrt 0 a = (r, 0) ∧ rt r = true ∧ SqD r.lo a.lo ∧ SqU r.hi a.hi := by
  have l := rt_le hr
  obtain ⟨x, e1, s1⟩ := (qSqrt_gen h0).1
  obtain ⟨y, e2, s2⟩ := (qSqrt_gen (a := a.hi) (by grind)).2
  refine ⟨⟨x, y⟩, ?_, sq_rt (r := ⟨x, y⟩) hr h0 s1 s2, s1, s2⟩
  unfold cSqrt
  rw [e1, e2, ends_mk rfl rfl, ask_mk hr rfl]
theorem quot_bd {x y d M : Rat} (hd : 0 < d) (hy : d ≤ y) (h1 : -(M * d) ≤ x) (h2 : x ≤ M * d) (hM : 0 ≤ M) : -M ≤ x / y ∧ x / y ≤ M := by
  have y0 : 0 < y := by grind
  have e : x / y * y = x := Rat.div_mul_cancel (by grind)
  have k := Rat.mul_nonneg hM (show 0 ≤ y - d by grind)
  generalize x / y = q at *
  constructor
  · refine Rat.le_of_mul_le_mul_right (c := y) ?_ y0
    grind
  · refine Rat.le_of_mul_le_mul_right (c := y) ?_ y0
    grind
theorem div_mk {a b : I} (ha : rt a = true) (hb : rt b = true) (h0 : 0 < b.lo.q) (h1 : -(9007199254740992 * b.lo.q) ≤ a.lo.q) (h2 : a.hi.q ≤ 9007199254740992 * b.lo.q) :
    ∃ r, cDiv pDiv 0 a b = (r, 0) ∧ AllR r (a.lo.q / b.lo.q) (a.lo.q / b.hi.q) (a.hi.q / b.lo.q) (a.hi.q / b.hi.q) := by
  have la := rt_le ha; have lb := rt_le hb
  have z : hasB b F.zero = false := by
    unfold hasB
    rw [hb, Bool.true_and, Bool.and_eq_false_iff, decide_eq_false_iff_not, decide_eq_false_iff_not]
    left; intro k; have := q_le.2 k; rw [q_zero] at this; grind
  obtain ⟨c, hc⟩ := low_ex
  obtain ⟨d, hd⟩ := big_ex
  have p1 := quot_bd (x := a.lo.q) (y := b.lo.q) h0 Rat.le_refl h1 (by grind) (by grind)
  have p2 := quot_bd (x := a.lo.q) (y := b.hi.q) h0 lb h1 (by grind) (by grind)
  have p3 := quot_bd (x := a.hi.q) (y := b.lo.q) h0 Rat.le_refl (by grind) h2 (by grind)
  have p4 := quot_bd (x := a.hi.q) (y := b.hi.q) h0 lb (by grind) h2 (by grind)
  obtain ⟨r, e, hr, _⟩ := all_has (div_four (a := a) hb z) (c := c) (d := d) (by rw [hc]; exact p1.1) (by rw [hc]; exact p2.1) (by rw [hc]; exact p3.1) (by rw [hc]; exact p4.1) (by rw [hd]; exact p1.2) (by rw [hd]; exact p2.2) (by rw [hd]; exact p3.2) (by rw [hd]; exact p4.2)
  refine ⟨r, ?_, hr⟩
  unfold cDiv
  rw [z, cond_false, e, ask_mk (by rw [ha, hb]; rfl) rfl]
theorem fl_ex (m : Int) (s : Nat) (hm : m.natAbs ≤ 9007199254740992) (hs : s ≤ 900) (w : Rat) (hw : ((2 ^ s : Nat) : Rat) * w = m) : ∃ c : F, c.q = w := by
  obtain ⟨c, hc⟩ := grid m hm s (by omega) (by omega)
  refine ⟨c, ?_⟩
  have hp := pow_q s
  generalize ((2 ^ s : Nat) : Rat) = p at *
  have : (c.q - w) * p = 0 := by grind
  rcases Rat.mul_eq_zero.1 this with e | e <;> grind
/-- a direction above the horizon -/
structure OneP (v : V3) : Prop where
  x : In1 v.x
  y : In1 v.y
  z : In1 v.z
  up : 1 / 128 ≤ v.z.lo.q
theorem pt_in {x : F} (h : N1 x) : In1 (pt x) := ⟨q_le.1 (by rw [mone_q]; exact h.lo), q_le.1 (by rw [one_q]; exact h.hi), Int.le_refl _⟩
theorem un_okE {x y z : F} (hx : N1 x) (hy : N1 y) (z0 : 1 / 64 ≤ z.q) (z1 : z.q ≤ 1) : (unE KkR x y z).2 = 0 ∧ OneP (unV KkR x y z) := by
  have hz : N1 z := ⟨by grind, z1⟩
  have ix := pt_in hx; have iy := pt_in hy; have iz := pt_in hz
  obtain ⟨qx, e1, a1, m1⟩ := sqr_in ix
  obtain ⟨qy, e2, a2, m2⟩ := sqr_in iy
  obtain ⟨s1, e3, d3, u3⟩ := cAdd_ok a1.sm a2.sm
  obtain ⟨qz, e4, a4, m4⟩ := sqr_in iz
  have l1 := a1.lo; have h1 := a1.hi; have r1 := a1.rt; have l2 := a2.lo; have h2 := a2.hi; have r2 := a2.rt
  obtain ⟨f2, g2⟩ := fl_ex 2 0 (by decide) (by decide) 2 (by decide +kernel)
  obtain ⟨f4, g4⟩ := fl_ex 4 0 (by decide) (by decide) 4 (by decide +kernel)
  have s1lo : 0 ≤ s1.lo.q := dn_nn d3 (by grind)
  have s1hi : s1.hi.q ≤ 2 := by have := u3.bot f2 (by rw [g2]; grind); rwa [g2] at this
  have s1rt : s1.lo.q ≤ s1.hi.q := by have := d3.le; have := u3.ge; grind
  have s1sm : Sm s1 := ⟨by grind, s1rt, by grind⟩
  obtain ⟨s2, e5, d5, u5⟩ := cAdd_ok s1sm a4.sm
  obtain ⟨f12, g12⟩ := fl_ex 1 12 (by decide) (by decide) (1 / 4096) (by decide +kernel)
  obtain ⟨f6, g6⟩ := fl_ex 1 6 (by decide) (by decide) (1 / 64) (by decide +kernel)
  obtain ⟨f7, g7⟩ := fl_ex 1 7 (by decide) (by decide) (1 / 128) (by decide +kernel)
  -- the square of z
  have qzlo : 1 / 4096 ≤ qz.lo.q := by
    obtain ⟨r, e, d, _⟩ := cSqr_ok iz.sm
    have e' : cSqr dMul 0 (pt z) = (qz, 0) := e4
    rw [e'] at e
    obtain rfl : qz = r := congrArg Prod.fst e
    have b := bare_ends (a := pt z) (decide_eq_true (Int.le_refl _))
    have hb : (bareI (pt z)).lo.q * (bareI (pt z)).lo.q = z.q * z.q := by
      rcases b.1 with k | k
      · have a := k.lo; have c := k.hi
        have : (bareI (pt z)).lo.q = z.q := by have : (pt z).lo.q = z.q := rfl; have : (pt z).hi.q = z.q := rfl; grind
        rw [this]
      · have a := k.lo; have c := k.hi
        have : -(bareI (pt z)).lo.q = z.q := by have : (pt z).lo.q = z.q := rfl; have : (pt z).hi.q = z.q := rfl; grind
        grind
    rw [hb] at d
    rw [← g12]
    refine d.top f12 ?_
    rw [g12]
    have := sq_bd (x := 1 / 64) (m := z.q) (by grind) z0
    grind
  have l4 := a4.lo; have h4 := a4.hi; have r4 := a4.rt
  have s2lo : 1 / 4096 ≤ s2.lo.q := by have := d5.top f12 (by rw [g12]; grind); rwa [g12] at this
  have s2hi : s2.hi.q ≤ 4 := by have := u5.bot f4 (by rw [g4]; grind); rwa [g4] at this
  have s2rt : s2.lo.q ≤ s2.hi.q := by have := d5.le; have := u5.ge; grind
  obtain ⟨nn, e6, r6, d6, u6⟩ := sqrt_mk (rt_q s2rt) (by grind)
  have nlo : 1 / 64 ≤ nn.lo.q := by have := d6.top f6 (by rw [g6]; grind) (by rw [g6]; grind); rwa [g6] at this
  have nhi : nn.hi.q ≤ 2 := by have := u6.bot f2 (by rw [g2]; grind) (by rw [g2]; grind); rwa [g2] at this
  have nrt := rt_le r6
  have pr : ∀ w : F, rt (pt w) = true := fun w => decide_eq_true (Int.le_refl _)
  have bd : ∀ {w : F}, N1 w → -(9007199254740992 * nn.lo.q) ≤ (pt w).lo.q ∧ (pt w).hi.q ≤ 9007199254740992 * nn.lo.q := by
    intro w hw
    have a := hw.lo; have b := hw.hi
    have : (pt w).lo.q = w.q := rfl
    have : (pt w).hi.q = w.q := rfl
    constructor <;> grind
  obtain ⟨dx, e7, _⟩ := div_mk (pr x) r6 (by grind) (bd hx).1 (bd hx).2
  obtain ⟨dy, e8, _⟩ := div_mk (pr y) r6 (by grind) (bd hy).1 (bd hy).2
  obtain ⟨dz, e9, h9⟩ := div_mk (pr z) r6 (by grind) (bd hz).1 (bd hz).2
  have hE : unE KkR x y z = ([withI dz, dz, withI dy, dy, withI dx, dx, nn, s2, qz, s1, qy, qx, pt z, pt y, pt x], 0) := by
    unfold unE unP
    refine (eval_cons (r := pt x) (e' := 0) ?_).trans ?_
    · exact rfl
    refine (eval_cons (r := pt y) (e' := 0) ?_).trans ?_
    · exact rfl
    refine (eval_cons (r := pt z) (e' := 0) ?_).trans ?_
    · exact rfl
    refine (eval_cons (r := qx) (e' := 0) ?_).trans ?_
    · exact e1
    refine (eval_cons (r := qy) (e' := 0) ?_).trans ?_
    · exact e2
    refine (eval_cons (r := s1) (e' := 0) ?_).trans ?_
    · exact e3
    refine (eval_cons (r := qz) (e' := 0) ?_).trans ?_
    · exact e4
    refine (eval_cons (r := s2) (e' := 0) ?_).trans ?_
    · exact e5
    refine (eval_cons (r := nn) (e' := 0) ?_).trans ?_
    · exact e6
    refine (eval_cons (r := dx) (e' := 0) ?_).trans ?_
    · exact e7
    refine (eval_cons (r := withI dx) (e' := 0) ?_).trans ?_
    · exact rfl
    refine (eval_cons (r := dy) (e' := 0) ?_).trans ?_
    · exact e8
    refine (eval_cons (r := withI dy) (e' := 0) ?_).trans ?_
    · exact rfl
    refine (eval_cons (r := dz) (e' := 0) ?_).trans ?_
    · exact e9
    refine (eval_cons (r := withI dz) (e' := 0) ?_).trans ?_
    · exact rfl
    rfl
  have hV : unV KkR x y z = ⟨withI dx, withI dy, withI dz⟩ := by unfold unV; rw [hE]; rfl
  rw [hV]
  refine ⟨by rw [hE], withI_in _, withI_in _, withI_in _, ?_⟩
  -- z by the length
  have pz : (pt z).lo.q = z.q ∧ (pt z).hi.q = z.q := ⟨rfl, rfl⟩
  have low : ∀ {w : Rat}, nn.lo.q ≤ w → w ≤ nn.hi.q → 1 / 128 ≤ z.q / w := by
    intro w w0 w1
    have e : z.q / w * w = z.q := Rat.div_mul_cancel (by grind)
    generalize z.q / w = t at *
    apply Rat.not_lt.1
    intro g
    have := Rat.mul_pos (show 0 < 1 / 128 - t by grind) (show 0 < w by grind)
    grind
  have dzlo : 1 / 128 ≤ dz.lo.q := by
    rw [← g7]
    have a := low Rat.le_refl nrt
    have b := low nrt Rat.le_refl
    refine h9.top ?_ ?_ ?_ ?_ <;> (rw [g7]; simp only [pz.1, pz.2]; assumption)
  have zn : z.q ≤ nn.hi.q := by
    refine sq_le' (by grind) (by grind) ?_
    have a := u6.ge
    have b := (m4 z.q ⟨Rat.le_refl, Rat.le_refl⟩).hi
    have c := u5.ge
    grind
  have top : z.q / nn.hi.q ≤ 1 := by
    have e : z.q / nn.hi.q * nn.hi.q = z.q := Rat.div_mul_cancel (by grind)
    generalize z.q / nn.hi.q = t at *
    apply Rat.not_lt.1
    intro g
    have := Rat.mul_pos (show 0 < t - 1 by grind) (show 0 < nn.hi.q by grind)
    grind
  have mz : Mem dz (z.q / nn.hi.q) := ⟨by have := h9.lo.2.1; simpa only [pz.1] using this, by have := h9.hi.2.1; simpa only [pz.1] using this⟩
  have b := low nrt Rat.le_refl
  show 1 / 128 ≤ (withI dz).lo.q
  rw [withI_eq mz (by grind) top]
  exact Rat.le_trans dzlo (mxF_q _ _).1
theorem un_ok {x y z : F} (hx : N1 x) (hy : N1 y) (z0 : 1 / 64 ≤ z.q) (z1 : z.q ≤ 1) : OneP (unV KkR x y z) := (un_okE hx hy z0 z1).2
theorem un_B {x y z : F} (hx : N1 x) (hy : N1 y) (z0 : 1 / 64 ≤ z.q) (z1 : z.q ≤ 1) : unB x y z = true := by
  have kt : decide (tiny64.k ≤ d64.k) = true := by decide +kernel
  have kh : decide (one64.k ≤ huge64.k) = true := by decide +kernel
  have kd : d64.q * 64 = 1 := q_of' (n := 1) (s := 6) (by decide +kernel) rfl
  have k1 := of_decide_eq_true kt
  have k2 := of_decide_eq_true kh
  have ab : ∀ {w : F}, N1 w → w.abs.k ≤ one64.k := by
    intro w hw
    have a := q_le.1 (show w.q ≤ one64.q by rw [one_q]; exact hw.hi)
    have b := q_le.1 (show mone64.q ≤ w.q by rw [mone_q]; exact hw.lo)
    have c : mone64.k = -one64.k := by decide +kernel
    show ((w.k.natAbs : Nat) : Int) ≤ _
    omega
  have z2 : d64.k ≤ z.abs.k := by
    have a := q_le.1 (show d64.q ≤ z.q by grind)
    show _ ≤ ((z.k.natAbs : Nat) : Int)
    omega
  have a := ab hx; have b := ab hy; have c := ab (w := z) ⟨by grind, z1⟩
  unfold unB mostF
  have e : (mxF (mxF x.abs y.abs) z.abs).k = max (max x.abs.k y.abs.k) z.abs.k := by rw [mxF_k, mxF_k]
  rw [e, Bool.and_eq_true, Bool.not_eq_true', Bool.not_eq_true', decide_eq_false_iff_not, decide_eq_false_iff_not]
  constructor <;> omega
end Bu
