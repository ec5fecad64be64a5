/- Oren's slope, plain: in cases; parts; both ways. Layer 11's laws: leaves, two directions, parts of 2^32: known functions. Layer 11's laws, by the reckoner. Leaves, plain: values and densities of directions of numbers. The chapter's examples of layer 11. Layer 11's rows: PairsBack, PairsFlat. -/
import Derived.Test.YtlhlcefkmhhmjaaGreatZ23
import Derived.Test.YtlhlcefkmhhmjaaGreatZ20
import Derived.Test.YtlhlcefkmhhmjaaGreatZ21
namespace Go.Proofs.YtlhlcefkmhhmjaaGreat
set_option linter.all false
open Go.RowKit Bu Rx

/-- the slope of i, o, d -/
structure SlH (i o d p q : I) : Prop where
  m : KkR.mul 0 i o = (p, 0)
  s : KkR.sub 0 d p = (q, 0)
def SlP (i o d sl : I) : Prop := ∃ p q, SlH i o d p q ∧
  ((q.hi.k ≤ z64.k ∧ sl = keptI q mone64 one64) ∨
   (z64.k < q.hi.k ∧ z64.k ≤ q.lo.k ∧ ∃ mx dv, KkR.max 0 i o = (mx, 0) ∧ KkR.div 0 q mx = (dv, 0) ∧ sl = keptI dv mone64 one64) ∨
   (z64.k < q.hi.k ∧ q.lo.k < z64.k ∧ ∃ mx up, KkR.max 0 i o = (mx, 0) ∧ KkR.div 0 (posH q) mx = (up, 0) ∧ sl = keptI (hullI (negH q) up) mone64 one64))
theorem orQ_of {i o d p q : I} (h : SlH i o d p q) : orQ KkR i o d = q := by
  unfold orQ; rw [h.m]; show (KkR.sub 0 d p).1 = q; rw [h.s]
section
variable {r s i o d p q mx dv : I}
theorem hdA_eq (h : SlH i o d p q) : hdA r s i o d = ([keptI q mone64 one64, q, p, d, o, i, s, r], 0) := by
  unfold hdA
  have e1 : stepK KkR (.mul 2 1) [d, o, i, s, r] 0 = (p, 0) := h.m
  have e2 : stepK KkR (.sub 1 0) [p, d, o, i, s, r] 0 = (q, 0) := h.s
  show evalK KkR [.mul 2 1, .sub 1 0, .kept mone64 one64 0] [d, o, i, s, r] 0 = _
  rw [eval_cons e1, eval_cons e2]
  rfl
theorem hdB_eq (h : SlH i o d p q) (hm : KkR.max 0 i o = (mx, 0)) (hd : KkR.div 0 q mx = (dv, 0)) : hdB r s i o d = ([keptI dv mone64 one64, dv, mx, q, p, d, o, i, s, r], 0) := by
  unfold hdB
  have e1 : stepK KkR (.mul 2 1) [d, o, i, s, r] 0 = (p, 0) := h.m
  have e2 : stepK KkR (.sub 1 0) [p, d, o, i, s, r] 0 = (q, 0) := h.s
  have e3 : stepK KkR (.max 4 3) [q, p, d, o, i, s, r] 0 = (mx, 0) := hm
  have e4 : stepK KkR (.div 1 0) [mx, q, p, d, o, i, s, r] 0 = (dv, 0) := hd
  show evalK KkR [.mul 2 1, .sub 1 0, .max 4 3, .div 1 0, .kept mone64 one64 0] [d, o, i, s, r] 0 = _
  rw [eval_cons e1, eval_cons e2, eval_cons e3, eval_cons e4]
  rfl
theorem hdC_eq (h : SlH i o d p q) (hm : KkR.max 0 i o = (mx, 0)) (hd : KkR.div 0 (posH q) mx = (dv, 0)) : hdC r s i o d = ([keptI (hullI (negH q) dv) mone64 one64, hullI (negH q) dv, negH q, dv, mx, posH q, q, p, d, o, i, s, r], 0) := by
  unfold hdC
  have e1 : stepK KkR (.mul 2 1) [d, o, i, s, r] 0 = (p, 0) := h.m
  have e2 : stepK KkR (.sub 1 0) [p, d, o, i, s, r] 0 = (q, 0) := h.s
  have e2' : stepK KkR (.fn posH 0) [q, p, d, o, i, s, r] 0 = (posH q, 0) := rfl
  have e3 : stepK KkR (.max 5 4) [posH q, q, p, d, o, i, s, r] 0 = (mx, 0) := hm
  have e4 : stepK KkR (.div 1 0) [mx, posH q, q, p, d, o, i, s, r] 0 = (dv, 0) := hd
  show evalK KkR [.mul 2 1, .sub 1 0, .fn posH 0, .max 5 4, .div 1 0, .fn negH 3, .fn2 hullI 0 1, .kept mone64 one64 0] [d, o, i, s, r] 0 = _
  rw [eval_cons e1, eval_cons e2, eval_cons e2', eval_cons e3, eval_cons e4]
  rfl
end
theorem pr_eq {x : I × Int} (h : x.2 = 0) : x = (x.1, 0) := Prod.ext rfl h
theorem head_inv {l : List Bu.Op} {r s i o d : I} (h : (evalK KkR (.mul 2 1 :: .sub 1 0 :: l) [d, o, i, s, r] 0).2 = 0) : ∃ p q, SlH i o d p q ∧ evalK KkR (.mul 2 1 :: .sub 1 0 :: l) [d, o, i, s, r] 0 = evalK KkR l [q, p, d, o, i, s, r] 0 := by
  obtain ⟨h1, e1⟩ := ev0 h
  rw [e1] at h
  obtain ⟨h2, e2⟩ := ev0 h
  exact ⟨_, _, ⟨pr_eq h1, pr_eq h2⟩, e1.trans e2⟩
theorem hdS_to {r s i o d : I} (h : (hdS r s i o d).2 = 0) : ∃ sl, SlP i o d sl ∧ gt (hdS r s i o d).1 0 = sl := by
  unfold hdS at *
  cases c1 : decide ((orQ KkR i o d).hi.k ≤ z64.k)
  · cases c2 : decide (z64.k ≤ (orQ KkR i o d).lo.k)
    · rw [c1, c2] at h
      simp only [cond_false] at h ⊢
      have h' : (evalK KkR [.mul 2 1, .sub 1 0, .fn posH 0, .max 5 4, .div 1 0, .fn negH 3, .fn2 hullI 0 1, .kept mone64 one64 0] [d, o, i, s, r] 0).2 = 0 := h
      obtain ⟨p, q, hh, e⟩ := head_inv h'
      rw [e] at h'
      obtain ⟨_, e0⟩ := ev0 h'
      rw [e0] at h'
      obtain ⟨h3, e3⟩ := ev0 h'
      rw [e3] at h'
      obtain ⟨h4, e4⟩ := ev0 h'
      have k1 := of_decide_eq_false c1; have k2 := of_decide_eq_false c2
      rw [orQ_of hh] at k1 k2
      exact ⟨_, ⟨p, q, hh, .inr (.inr ⟨by omega, by omega, _, _, pr_eq h3, pr_eq h4, rfl⟩)⟩, by rw [hdC_eq hh (pr_eq h3) (pr_eq h4)]; rfl⟩
    · rw [c1, c2] at h
      simp only [cond_false, cond_true] at h ⊢
      have h' : (evalK KkR [.mul 2 1, .sub 1 0, .max 4 3, .div 1 0, .kept mone64 one64 0] [d, o, i, s, r] 0).2 = 0 := h
      obtain ⟨p, q, hh, e⟩ := head_inv h'
      rw [e] at h'
      obtain ⟨h3, e3⟩ := ev0 h'
      rw [e3] at h'
      obtain ⟨h4, e4⟩ := ev0 h'
      have k1 := of_decide_eq_false c1; have k2 := of_decide_eq_true c2
      rw [orQ_of hh] at k1 k2
      exact ⟨_, ⟨p, q, hh, .inr (.inl ⟨by omega, k2, _, _, pr_eq h3, pr_eq h4, rfl⟩)⟩, by rw [hdB_eq hh (pr_eq h3) (pr_eq h4)]; rfl⟩
  · rw [c1] at h
    simp only [cond_true] at h ⊢
    have h' : (evalK KkR [.mul 2 1, .sub 1 0, .kept mone64 one64 0] [d, o, i, s, r] 0).2 = 0 := h
    obtain ⟨p, q, hh, e⟩ := head_inv h'
    have k1 := of_decide_eq_true c1
    rw [orQ_of hh] at k1
    exact ⟨_, ⟨p, q, hh, .inl ⟨k1, rfl⟩⟩, by rw [hdA_eq hh]; rfl⟩
theorem hdS_of {r s i o d sl : I} (h : SlP i o d sl) : (hdS r s i o d).2 = 0 ∧ gt (hdS r s i o d).1 0 = sl := by
  obtain ⟨p, q, hh, c⟩ := h
  unfold hdS
  rw [orQ_of hh]
  rcases c with ⟨a, rfl⟩ | ⟨a, b, mx, dv, hm, hd, rfl⟩ | ⟨a, b, mx, dv, hm, hd, rfl⟩
  · rw [decide_eq_true a, cond_true, hdA_eq hh]; exact ⟨rfl, rfl⟩
  · rw [decide_eq_false (show ¬ q.hi.k ≤ z64.k by omega), decide_eq_true b, cond_false, cond_true, hdB_eq hh hm hd]; exact ⟨rfl, rfl⟩
  · rw [decide_eq_false (show ¬ q.hi.k ≤ z64.k by omega), decide_eq_false (show ¬ z64.k ≤ q.lo.k by omega), cond_false, cond_false, hdC_eq hh hm hd]; exact ⟨rfl, rfl⟩
theorem max_eq {i o : I} (hi : rt i = true) (ho : rt o = true) : KkR.max 0 i o = (maxI i o, 0) := by
  show cMax 0 i o = _
  unfold cMax
  rw [hi, ho]; rfl
theorem inn_tr {a b c : I} (h : Inn a b) (k : Inn b c) : Inn a c := ⟨Rat.le_trans k.lo h.lo, Rat.le_trans h.hi k.hi, h.rt⟩
theorem z_q0 : z64.q = 0 := zero0_q
/-- 0 by a divisor is 0 -/
theorem div_zero_in {a b r : I} (h : KkR.div 0 a b = (r, 0)) (h0 : a.lo.q ≤ 0) (h1 : 0 ≤ a.hi.q) : r.lo.q ≤ 0 ∧ 0 ≤ r.hi.q := by
  have st : (stepK KkR (.div 0 1) [a, b] 0).2 = 0 := by show (KkR.div 0 a b).2 = 0; rw [h]
  obtain ⟨_, g, f⟩ := step_fact st
  have f2 : Fact (.div 0 1) [a, b] r := by
    rwa [show (stepK KkR (.div 0 1) [a, b] 0).1 = r from by show (KkR.div 0 a b).1 = r; rw [h]] at f
  have hb : rt b = true := g.2
  have m := p_div (x := 0) (y := b.lo.q) f2 ⟨h0, h1⟩ ⟨Rat.le_refl, rt_le hb⟩
  rw [Rat.div_def, Rat.zero_mul] at m
  exact ⟨m.1, m.2⟩
theorem max_rt {a b c : I} (h : KkR.max 0 a b = (c, 0)) : rt a = true ∧ rt b = true ∧ c = maxI a b := by
  have st : (stepK KkR (.max 0 1) [a, b] 0).2 = 0 := by show (KkR.max 0 a b).2 = 0; rw [h]
  obtain ⟨_, g, f⟩ := step_fact st
  exact ⟨g.1, g.2, by have e : (KkR.max 0 a b).1 = maxI a b := f; rw [h] at e; exact e⟩
theorem hull_inn {a a' b b' : I} (ha : Inn a a') (hb : Inn b b') : Inn (hullI a b) (hullI a' b') := by
  have x := ha.inB; have y := hb.inB
  refine InB.inn ⟨?_, ?_, of_decide_eq_true (hull_rt ha.rt hb.rt)⟩
  · show (mnF a'.lo b'.lo).k ≤ (mnF a.lo b.lo).k
    have := x.1; have := y.1
    rw [mnF_k, mnF_k]; omega
  · show (mxF a.hi b.hi).k ≤ (mxF a'.hi b'.hi).k
    have := x.2.1; have := y.2.1
    rw [mxF_k, mxF_k]; omega
theorem hull_ri {a b : I} (hb : rt b = true) : Inn b (hullI a b) := by
  refine InB.inn ⟨?_, ?_, of_decide_eq_true hb⟩
  · show (mnF a.lo b.lo).k ≤ b.lo.k
    rw [mnF_k]; omega
  · show b.hi.k ≤ (mxF a.hi b.hi).k
    rw [mxF_k]; omega
theorem sl_inn {i o d i' o' d' sl' : I} (hi : Inn i i') (ho : Inn o o') (hd : Inn d d') (h : SlP i' o' d' sl') : ∃ sl, SlP i o d sl ∧ Inn sl sl' := by
  obtain ⟨p', q', hh, c⟩ := h
  obtain ⟨p, e1, n1⟩ := mul_inn hi ho (show (cMul dMul 0 i' o').2 = 0 by have := hh.m; show (KkR.mul 0 i' o').2 = 0; rw [this])
  rw [show (cMul dMul 0 i' o').1 = p' from congrArg Prod.fst hh.m] at n1
  obtain ⟨q, e2, n2⟩ := sub_inn hd n1 (show (cSub dSub 0 d' p').2 = 0 by have := hh.s; show (KkR.sub 0 d' p').2 = 0; rw [this])
  rw [show (cSub dSub 0 d' p').1 = q' from congrArg Prod.fst hh.s] at n2
  have H : SlH i o d p q := ⟨e1, e2⟩
  have b2 := n2.inB
  have mxe := max_eq hi.rt ho.rt
  have dv : ∀ {a a' mx' up' : I}, KkR.max 0 i' o' = (mx', 0) → KkR.div 0 a' mx' = (up', 0) → Inn a a' → ∃ up, KkR.div 0 a (maxI i o) = (up, 0) ∧ Inn up up' := by
    intro a a' mx' up' hm hdv ha
    obtain ⟨_, _, e⟩ := max_rt hm
    obtain ⟨r, e3, n3⟩ := div_inn ha (by rw [e]; exact max_inn hi ho : Inn (maxI i o) mx') (show (cDiv pDiv 0 a' mx').2 = 0 by show (KkR.div 0 a' mx').2 = 0; rw [hdv])
    rw [show (cDiv pDiv 0 a' mx').1 = up' from congrArg Prod.fst hdv] at n3
    exact ⟨r, e3, n3⟩
  rcases c with ⟨a, rfl⟩ | ⟨a, b, mx, dv', hm, hdv, rfl⟩ | ⟨a, b, mx, up', hm, hdv, rfl⟩
  · exact ⟨_, ⟨p, q, H, .inl ⟨by have := b2.2.1; omega, rfl⟩⟩, kept_inn _ _ n2⟩
  · by_cases g : q.hi.k ≤ z64.k
    · refine ⟨_, ⟨p, q, H, .inl ⟨g, rfl⟩⟩, kept_inn _ _ ?_⟩
      have g1 := q_le.2 g; have g2 := q_le.2 (show z64.k ≤ q.lo.k by have := b2.1; omega)
      have g3 := n2.lo; have g4 := n2.hi; have g5 := rt_le n2.rt
      have g6 := q_le.2 b
      rw [z_q0] at g1 g2 g6
      obtain ⟨w1, w2⟩ := div_zero_in hdv (by grind) (by grind)
      exact ⟨by grind, by grind, n2.rt⟩
    · obtain ⟨up, e3, n3⟩ := dv hm hdv n2
      exact ⟨_, ⟨p, q, H, .inr (.inl ⟨by omega, by have := b2.1; omega, _, _, mxe, e3, rfl⟩)⟩, kept_inn _ _ n3⟩
  · have pz : (posH q').lo.q ≤ 0 ∧ 0 ≤ (posH q').hi.q := by
      have := q_le.2 (Int.le_of_lt a)
      rw [z_q0] at this
      exact ⟨by show z64.q ≤ 0; rw [z_q0]; exact Rat.le_refl, this⟩
    obtain ⟨w1, w2⟩ := div_zero_in hdv pz.1 pz.2
    have rup : rt up' = true := rt_q (Rat.le_trans w1 w2)
    have nh : rt (negH q') = true := decide_eq_true (Int.le_of_lt b)
    by_cases g : q.hi.k ≤ z64.k
    · refine ⟨_, ⟨p, q, H, .inl ⟨g, rfl⟩⟩, kept_inn _ _ (InB.inn ⟨?_, ?_, b2.2.2⟩)⟩
      · show (mnF (negH q').lo up'.lo).k ≤ q.lo.k
        have := b2.1
        have e : (negH q').lo.k = q'.lo.k := rfl
        rw [mnF_k]; omega
      · show q.hi.k ≤ (mxF (negH q').hi up'.hi).k
        have e : (negH q').hi.k = z64.k := rfl
        rw [mxF_k]; omega
    · by_cases g2 : z64.k ≤ q.lo.k
      · have ni : Inn q (posH q') := InB.inn ⟨g2, b2.2.1, b2.2.2⟩
        obtain ⟨up, e3, n3⟩ := dv hm hdv ni
        exact ⟨_, ⟨p, q, H, .inr (.inl ⟨by omega, g2, _, _, mxe, e3, rfl⟩)⟩, kept_inn _ _ (inn_tr n3 (hull_ri rup))⟩
      · have ni : Inn (posH q) (posH q') := InB.inn ⟨Int.le_refl _, b2.2.1, by show z64.k ≤ q.hi.k; omega⟩
        obtain ⟨up, e3, n3⟩ := dv hm hdv ni
        have nn : Inn (negH q) (negH q') := InB.inn ⟨b2.1, Int.le_refl _, by show q.lo.k ≤ z64.k; omega⟩
        exact ⟨_, ⟨p, q, H, .inr (.inr ⟨by omega, by omega, _, _, mxe, e3, rfl⟩)⟩, kept_inn _ _ (hull_inn nn n3)⟩
theorem sl_b {i o d sl : I} (h : SlP i o d sl) : B11 sl := by
  obtain ⟨e1, e2⟩ := hdS_of (r := I.zero) (s := I.zero) h
  rw [← e2]
  exact hdS_b e1
/-- Oren's value -/
theorem or_eq {r s i o d sl : I} (hr : Uz1 r) (hs : Uz1 s) (h : SlP i o d sl) : orR KkR r s i o d = (orV r s sl, 0) := by
  obtain ⟨e1, e2⟩ := hdS_of (r := r) (s := s) h
  rw [or_val hr hs, e1, e2]
  rfl
theorem or_to {r s i o d : I} (hr : Uz1 r) (hs : Uz1 s) (h : (orR KkR r s i o d).2 = 0) : ∃ sl, SlP i o d sl ∧ orR KkR r s i o d = (orV r s sl, 0) := by
  rw [or_val hr hs] at h
  cases c : neB (hdS r s i o d).2
  · have z := neB_0 c
    obtain ⟨sl, k, e⟩ := hdS_to z
    exact ⟨sl, k, or_eq hr hs k⟩
  · rw [c] at h
    have h' : (hdS r s i o d).2 = 0 := h
    rw [h'] at c
    cases c
end Go.Proofs.YtlhlcefkmhhmjaaGreat
namespace Bu
set_option linter.all false
open Rx Go

structure U8 where
  a0 : Int
  a1 : Int
  a2 : Int
  a3 : Int
  a4 : Int
  a5 : Int
  a6 : Int
  a7 : Int
structure U6 where
  a0 : Int
  a1 : Int
  a2 : Int
  a3 : Int
  a4 : Int
  a5 : Int
def U8.sv (u : U8) : SV := .agg [.si .u32 u.a0, .si .u32 u.a1, .si .u32 u.a2, .si .u32 u.a3, .si .u32 u.a4, .si .u32 u.a5, .si .u32 u.a6, .si .u32 u.a7]
def U6.sv (u : U6) : SV := .agg [.si .u32 u.a0, .si .u32 u.a1, .si .u32 u.a2, .si .u32 u.a3, .si .u32 u.a4, .si .u32 u.a5]
def U8.ok (u : U8) : Bool := wN32 u.a0 && (wN32 u.a1 && (wN32 u.a2 && (wN32 u.a3 && (wN32 u.a4 && (wN32 u.a5 && (wN32 u.a6 && wN32 u.a7))))))
def U6.ok (u : U6) : Bool := wN32 u.a0 && (wN32 u.a1 && (wN32 u.a2 && (wN32 u.a3 && (wN32 u.a4 && wN32 u.a5))))
abbrev Bw := F → F → Int → F
/-- the cells of a node -/
def ndL (a0 a1 a2 a3 a4 a5 a6 a7 a8 a9 a10 a11 a12 a13 a14 a15 : F) (i : Nat) : F := [a0, a1, a2, a3, a4, a5, a6, a7, a8, a9, a10, a11, a12, a13, a14, a15].getD i z64
def leF1 (b : Bw) (u : U8) : Nat → F := ndL (b z64 one64 u.a1) (b z64 one64 u.a2) (b z64 one64 u.a3) z64 z64 z64 z64 z64 z64 z64 z64 z64 z64 z64 z64 z64
def leF2 (b : Bw) (u : U8) : Nat → F := ndL (b z64 one64 u.a1) (b z64 one64 u.a2) (b z64 one64 u.a3) z64 z64 z64 z64 z64 z64 z64 z64 z64 (b z64 one64 u.a4) z64 z64 z64
def leF3 (b : Bw) (u : U8) : Nat → F := ndL z64 z64 z64 z64 z64 z64 z64 z64 z64 z64 z64 z64 z64 (b minA one64 u.a1) (b minIo four64 u.a2) z64
def leF4 (b : Bw) (u : U8) : Nat → F := ndL z64 z64 z64 z64 z64 z64 (b minMt maxMt u.a2) (b minMt maxMt u.a3) (b minMt maxMt u.a4) (b minMt maxMt u.a5) (b minMt maxMt u.a6) (b minMt maxMt u.a7) z64 (b minA one64 u.a1) z64 z64
def leK (u : U8) : Int := bif decide (u.a0.tmod 4 = 0) then 1 else bif decide (u.a0.tmod 4 = 1) then 2 else bif decide (u.a0.tmod 4 = 2) then 3 else 4
def leF (b : Bw) (u : U8) : Nat → F := bif decide (u.a0.tmod 4 = 0) then leF1 b u else bif decide (u.a0.tmod 4 = 1) then leF2 b u else bif decide (u.a0.tmod 4 = 2) then leF3 b u else leF4 b u
theorem rk_p : pairB z64 one64 = true ∧ pairB minA one64 = true ∧ pairB minIo four64 = true ∧ pairB minMt maxMt = true ∧ pairB mone64 one64 = true ∧ pairB d64 one64 = true := by decide +kernel
theorem rk_le : z64.k ≤ one64.k ∧ minA.k ≤ one64.k ∧ minIo.k ≤ four64.k ∧ minMt.k ≤ maxMt.k := by decide +kernel
theorem rng_o {l h : F} {n : Int} {o : Obs} (hl : l.k ≤ h.k) (ho : ObsOk o) : ObsOk (rngO (bwF l h n) l h o) := by
  have := bwF_in (n := n) hl
  exact ob_c (decide_eq_false (by omega)) (ob_c (decide_eq_false (by omega)) ho)
theorem le_right (u : U8) : ObsOk (rtOb (leK u) (leF bwF u)) := by
  obtain ⟨e1, e2, e3, e4⟩ := rk_le
  unfold leK leF
  cases decide (u.a0.tmod 4 = 0)
  · cases decide (u.a0.tmod 4 = 1)
    · cases decide (u.a0.tmod 4 = 2)
      · refine ob_c ?_ (rng_o e4 (rng_o e4 (rng_o e4 (rng_o e4 (rng_o e4 (rng_o e4 (rng_o e2 ob_n)))))))
        simp [eqNd, q3E, bare4, leF4, ndL]
        exact ⟨⟨rfl, rfl, rfl⟩, rfl, rfl, rfl⟩
      · refine ob_c ?_ (rng_o e3 (rng_o e2 ob_n))
        simp [eqNd, q3E, bare3, leF3, ndL]
    · refine ob_c ?_ (rng_o e1 (rng_o e1 (rng_o e1 (rng_o e1 ob_n))))
      simp [eqNd, q3E, bare2, leF2, ndL]
      exact ⟨rfl, rfl, rfl⟩
  · refine ob_c ?_ (rng_o e1 (rng_o e1 (rng_o e1 ob_n)))
    simp [eqNd, q3E, bare1, leF1, ndL]
    exact ⟨rfl, rfl, rfl⟩
/-- a node whose kind is told by numbers -/
def nodeZ (k : Int) (f : Nat → F) : SV := .agg [.si .u8 k, .fl (f 0), .fl (f 1), .fl (f 2), .fl (f 3), .fl (f 4), .fl (f 5), .fl (f 6), .fl (f 7), .fl (f 8), .fl (f 9), .fl (f 10), .fl (f 11), .fl (f 12), .fl (f 13), .fl (f 14), .fl (f 15), .i .i64 0, .i .i64 0]
def kLe (k : U8 → Int) (f : U8 → Nat → F) (o : U8 → Bool) : List SV → Dec → Option (SV × Dec × Obs)
  | [.agg [.si .u32 a0, .si .u32 a1, .si .u32 a2, .si .u32 a3, .si .u32 a4, .si .u32 a5, .si .u32 a6, .si .u32 a7]], ds => some (nodeZ (k ⟨a0, a1, a2, a3, a4, a5, a6, a7⟩) (f ⟨a0, a1, a2, a3, a4, a5, a6, a7⟩), ds, [(o ⟨a0, a1, a2, a3, a4, a5, a6, a7⟩, true)])
  | _, _ => none
/-- two directions of numbers -/
def twV (un : F → F → F → V3) (b : Bw) (x y z : Int) : V3 := un (b mone64 one64 x) (b mone64 one64 y) (b d64 one64 z)
def twA (un : F → F → F → V3) (b : Bw) (u : U6) : V3 := twV un b u.a0 u.a1 u.a2
def twB (un : F → F → F → V3) (b : Bw) (u : U6) : V3 := twV un b u.a3 u.a4 u.a5
def kTw (f g : U6 → V3) (o : U6 → Bool) : List SV → Dec → Option (SV × Dec × Obs)
  | [.agg [.si .u32 a0, .si .u32 a1, .si .u32 a2, .si .u32 a3, .si .u32 a4, .si .u32 a5]], ds => some (.tup [(f ⟨a0, a1, a2, a3, a4, a5⟩).sv, (g ⟨a0, a1, a2, a3, a4, a5⟩).sv, .b true], ds, [(o ⟨a0, a1, a2, a3, a4, a5⟩, true)])
  | _, _ => none
theorem e64_q : d64.q = 1 / 64 := by have : d64.q * 64 = 1 := q_of' (n := 1) (s := 6) (by decide +kernel) rfl; grind
theorem bwN1 {n : Int} : N1 (bwF mone64 one64 n) := by
  have h := bwF_in (a := mone64) (b := one64) (n := n) (q_le.1 (by rw [mone_q, one_q]; grind))
  have a := q_le.2 h.1; have b := q_le.2 h.2
  rw [mone_q] at a; rw [one_q] at b
  exact ⟨a, b⟩
theorem bwN2 {n : Int} : 1 / 64 ≤ (bwF d64 one64 n).q ∧ (bwF d64 one64 n).q ≤ 1 := by
  have h := bwF_in (a := d64) (b := one64) (n := n) (q_le.1 (by rw [e64_q, one_q]; grind))
  have a := q_le.2 h.1; have b := q_le.2 h.2
  rw [e64_q] at a; rw [one_q] at b
  exact ⟨a, b⟩
theorem twP (x y z : Int) : OneP (twV (unV KkR) bwF x y z) := un_ok bwN1 bwN1 bwN2.1 bwN2.2
theorem twU (x y z : Int) : unB (bwF mone64 one64 x) (bwF mone64 one64 y) (bwF d64 one64 z) = true := un_B bwN1 bwN1 bwN2.1 bwN2.2
end Bu
namespace Go.Proofs.YtlhlcefkmhhmjaaGreat
set_option linter.all false
open Go.RowKit Bu Rx

def OTw (un : F → F → F → V3) (ub : F → F → F → Bool) (b : Bw) (p : F → F → Bool) (w : Int → Bool) : OracleF := lookO [(24, plainO (kUn un ub)), (23, plainO (kBw b p w))]
def twOb (ub : F → F → F → Bool) (b : Bw) (p : F → F → Bool) (w : Int → Bool) (x y z : Int) : Obs := [(ub (b mone64 one64 x) (b mone64 one64 y) (b d64 one64 z), true), (p d64 one64, true), (w z, true), (p mone64 one64, true), (w y, true), (p mone64 one64, true), (w x, true)]
theorem twRun (un : F → F → F → V3) (ub : F → F → F → Bool) (b : Bw) (p : F → F → Bool) (w : Int → Bool) (u : U6) : valR ((run Tryz.prog EG (OTw un ub b p w) 80).1 7 [u.sv] [] (some [true, true, true, true])) =
    some (.tup [(twA un b u).sv, (twB un b u).sv, .b true], some [], (decide (z64.k < (twB un b u).z.lo.k), true) :: (decide (z64.k < (twA un b u).z.lo.k), true) :: (twOb ub b p w u.a3 u.a4 u.a5 ++ twOb ub b p w u.a0 u.a1 u.a2)) := by kernel_rfl
theorem oracleTw : OracleOk Tryz.prog (OTw (unV KkR) unB bwF pairB wN32) := .cons unG.of (.cons bwG.of (.nil _))
theorem twK : PlainOk Tryz.prog 7 (kTw (twA (unV KkR) bwF) (twB (unV KkR) bwF) U6.ok) := by
  intro args ds x ds' ob h ho
  unfold kTw at h
  split at h
  · rename_i a0 a1 a2 a3 a4 a5
    simp only [Option.some.injEq, Prod.mk.injEq] at h
    obtain ⟨rfl, _, rfl⟩ := h
    generalize hu : (⟨a0, a1, a2, a3, a4, a5⟩ : U6) = u at *
    have e : (.agg [.si .u32 a0, .si .u32 a1, .si .u32 a2, .si .u32 a3, .si .u32 a4, .si .u32 a5] : SV) = u.sv := by subst hu; rfl
    rw [e]
    have k : u.ok = true := ob_h ho
    unfold U6.ok at k
    simp only [Bool.and_eq_true] at k
    obtain ⟨k0, k1, k2, k3, k4, k5⟩ := k
    have z : ∀ x y z, decide (z64.k < (twV (unV KkR) bwF x y z).z.lo.k) = true := fun x y z => by
      have := (twP x y z).up
      have z0 : z64.q = 0 := zero0_q
      exact decide_eq_true (q_lt.1 (by rw [z0]; grind))
    obtain ⟨_, _, _, _, p1, p2⟩ := rk_p
    have t : ∀ {x y z : Int}, wN32 x = true → wN32 y = true → wN32 z = true → ObsOk (twOb unB bwF pairB wN32 x y z) := fun hx hy hz =>
      ob_c (twU _ _ _) (ob_c p2 (ob_c hz (ob_c p1 (ob_c hy (ob_c p1 (ob_c hx ob_n))))))
    exact ⟨[.agg #[.int .u32 u.a0, .int .u32 u.a1, .int .u32 u.a2, .int .u32 u.a3, .int .u32 u.a4, .int .u32 u.a5]], _, rfl, rfl, fun w => calls_of_val goodG oracleTw 80 (twRun (unV KkR) unB bwF pairB wN32 u) (ob_c (z _ _ _) (ob_c (z _ _ _) (ob_a (t k3 k4 k5) (t k0 k1 k2)))) rfl rfl w⟩
  · cases h
def OLe (b : Bw) (p : F → F → Bool) (w : Int → Bool) : OracleF := lookO [(23, plainO (kBw b p w))]
def bO (p : F → F → Bool) (w : Int → Bool) (l h : F) (n : Int) (o : Obs) : Obs := (p l h, true) :: (w n, true) :: o
/-- the array stands as it stood -/
def sO (u : U8) : Obs := [(decide (u.a0 = u.a0), true), (decide (u.a1 = u.a1), true), (decide (u.a2 = u.a2), true), (decide (u.a3 = u.a3), true), (decide (u.a4 = u.a4), true), (decide (u.a5 = u.a5), true), (decide (u.a6 = u.a6), true), (decide (u.a7 = u.a7), true)]
theorem sO_ok {u : U8} {o : Obs} (h : ObsOk o) : ObsOk (sO u ++ o) := ob_a (ob_c (decide_eq_true rfl) (ob_c (decide_eq_true rfl) (ob_c (decide_eq_true rfl) (ob_c (decide_eq_true rfl) (ob_c (decide_eq_true rfl) (ob_c (decide_eq_true rfl) (ob_c (decide_eq_true rfl) (ob_c (decide_eq_true rfl) ob_n)))))))) h
def leD (u : U8) (i : Int) (b : Bool) : Bool × Bool := (decide (u.a0.tmod 4 = i), b)
theorem leRun1 (b : Bw) (p : F → F → Bool) (w : Int → Bool) (u : U8) : valR ((run Tryz.prog EG (OLe b p w) 80).1 6 [u.sv] [] (some [true])) = some (nodeS 1 (leF1 b u), some [], sO u ++ bO p w z64 one64 u.a3 (bO p w z64 one64 u.a2 (bO p w z64 one64 u.a1 [leD u 0 true]))) := by kernel_rfl
theorem leRun2 (b : Bw) (p : F → F → Bool) (w : Int → Bool) (u : U8) : valR ((run Tryz.prog EG (OLe b p w) 80).1 6 [u.sv] [] (some [false, true])) = some (nodeS 2 (leF2 b u), some [], bO p w z64 one64 u.a4 (sO u ++ bO p w z64 one64 u.a3 (bO p w z64 one64 u.a2 (bO p w z64 one64 u.a1 [leD u 1 true, leD u 0 false])))) := by kernel_rfl
theorem leRun3 (b : Bw) (p : F → F → Bool) (w : Int → Bool) (u : U8) : valR ((run Tryz.prog EG (OLe b p w) 80).1 6 [u.sv] [] (some [false, false, true])) = some (nodeS 3 (leF3 b u), some [], bO p w minIo four64 u.a2 (bO p w minA one64 u.a1 [leD u 2 true, leD u 1 false, leD u 0 false])) := by kernel_rfl
theorem leRun4 (b : Bw) (p : F → F → Bool) (w : Int → Bool) (u : U8) : valR ((run Tryz.prog EG (OLe b p w) 80).1 6 [u.sv] [] (some [false, false, false])) = some (nodeS 4 (leF4 b u), some [], sO u ++ bO p w minMt maxMt u.a7 (bO p w minMt maxMt u.a6 (bO p w minMt maxMt u.a5 (sO u ++ bO p w minMt maxMt u.a4 (bO p w minMt maxMt u.a3 (bO p w minMt maxMt u.a2 (bO p w minA one64 u.a1 [leD u 2 false, leD u 1 false, leD u 0 false]))))))) := by kernel_rfl
theorem oracleLe : OracleOk Tryz.prog (OLe bwF pairB wN32) := .cons bwG.of (.nil _)
def nodeV (k : Int) (f : Nat → F) : Value := .agg #[.int .u8 k, .float .f64 (f 0).b, .float .f64 (f 1).b, .float .f64 (f 2).b, .float .f64 (f 3).b, .float .f64 (f 4).b, .float .f64 (f 5).b, .float .f64 (f 6).b, .float .f64 (f 7).b, .float .f64 (f 8).b, .float .f64 (f 9).b, .float .f64 (f 10).b, .float .f64 (f 11).b, .float .f64 (f 12).b, .float .f64 (f 13).b, .float .f64 (f 14).b, .float .f64 (f 15).b, .int .i64 0, .int .i64 0]
theorem nd_pl (k : Int) (f : Nat → F) : plain (nodeS k f) = some (nodeV k f) ∧ plain (nodeZ k f) = some (nodeV k f) := ⟨rfl, rfl⟩
theorem leG : PlainOk Tryz.prog 6 (kLe leK (leF bwF) U8.ok) := by
  intro args ds x ds' ob h ho
  unfold kLe at h
  split at h
  · rename_i a0 a1 a2 a3 a4 a5 a6 a7
    simp only [Option.some.injEq, Prod.mk.injEq] at h
    obtain ⟨rfl, _, rfl⟩ := h
    generalize hu : (⟨a0, a1, a2, a3, a4, a5, a6, a7⟩ : U8) = u at *
    have e : (.agg [.si .u32 a0, .si .u32 a1, .si .u32 a2, .si .u32 a3, .si .u32 a4, .si .u32 a5, .si .u32 a6, .si .u32 a7] : SV) = u.sv := by subst hu; rfl
    rw [e]
    have k : u.ok = true := ob_h ho
    unfold U8.ok at k
    simp only [Bool.and_eq_true] at k
    obtain ⟨k0, k1, k2, k3, k4, k5, k6, k7⟩ := k
    obtain ⟨p1, p2, p3, p4, _⟩ := rk_p
    have bo : ∀ {l h : F} {n : Int} {o : Obs}, pairB l h = true → wN32 n = true → ObsOk o → ObsOk (bO pairB wN32 l h n o) := fun a b c => ob_c a (ob_c b c)
    refine ⟨[.agg #[.int .u32 u.a0, .int .u32 u.a1, .int .u32 u.a2, .int .u32 u.a3, .int .u32 u.a4, .int .u32 u.a5, .int .u32 u.a6, .int .u32 u.a7]], _, rfl, (nd_pl _ _).2, fun w => ?_⟩
    have r1 := leRun1 bwF pairB wN32 u
    have r2 := leRun2 bwF pairB wN32 u
    have r3 := leRun3 bwF pairB wN32 u
    have r4 := leRun4 bwF pairB wN32 u
    unfold leD at r1 r2 r3 r4
    unfold leK leF
    cases c0 : decide (u.a0.tmod 4 = 0) <;> rw [c0] at r1 r2 r3 r4
    · cases c1 : decide (u.a0.tmod 4 = 1) <;> rw [c1] at r2 r3 r4
      · cases c2 : decide (u.a0.tmod 4 = 2) <;> rw [c2] at r3 r4
        · exact calls_of_val goodG oracleLe 80 r4 (sO_ok (bo p4 k7 (bo p4 k6 (bo p4 k5 (sO_ok (bo p4 k4 (bo p4 k3 (bo p4 k2 (bo p2 k1 (ob_c rfl (ob_c rfl (ob_c rfl ob_n)))))))))))) rfl (nd_pl _ _).1 w
        · exact calls_of_val goodG oracleLe 80 r3 (bo p3 k2 (bo p2 k1 (ob_c rfl (ob_c rfl (ob_c rfl ob_n))))) rfl (nd_pl _ _).1 w
      · exact calls_of_val goodG oracleLe 80 r2 (bo p1 k4 (sO_ok (bo p1 k3 (bo p1 k2 (bo p1 k1 (ob_c rfl (ob_c rfl ob_n))))))) rfl (nd_pl _ _).1 w
    · exact calls_of_val goodG oracleLe 80 r1 (sO_ok (bo p1 k3 (bo p1 k2 (bo p1 k1 (ob_c rfl ob_n))))) rfl (nd_pl _ _).1 w
  · cases h
def normA : List SV → List SV
  | .agg (.si .u8 k :: r) :: l => .agg (.i .u8 k :: r) :: l
  | l => l
theorem norm_pl (l : List SV) : plains (normA l) = plains l := by
  unfold normA
  split <;> rfl
theorem normK {m : FuncId} {k : List SV → Dec → Option (SV × Dec × Obs)} (h : PlainOk Tryz.prog m k) : PlainOk Tryz.prog m (fun a ds => k (normA a) ds) := by
  intro args ds x ds' ob hk ho
  obtain ⟨vs, v, h1, h2, h3⟩ := h _ _ _ _ _ hk ho
  exact ⟨vs, v, by rw [← norm_pl]; exact h1, h2, h3⟩
end Go.Proofs.YtlhlcefkmhhmjaaGreat
namespace Bu
set_option linter.all false
open Rx Go

/-- what the laws of layer 11 call -/
structure Nl where
  K : Kk
  lk : U8 → Int
  lf : U8 → Nat → F
  lo : U8 → Bool
  ta : U6 → V3
  tb : U6 → V3
  tw : U6 → Bool
  ro : Int → (Nat → F) → Obs
  vg : Lf → I × Int
  vo : Lf → Obs
  dg : Lf → I × Int
  dO : Lf → Obs
  me : I → I → Bool
  fr : Int → F
  wf : Int → Bool
def Lf.c0 (l : Lf) : Lf := ⟨l.k, l.f, 0, l.v, l.u⟩
def chI (c : Int) : Int := IntKind.i64.wrap (c.tmod 3)
end Bu
namespace Go.Proofs.YtlhlcefkmhhmjaaGreat
set_option linter.all false
open Go.RowKit Bu Rx

def q2E (a b : I) : Bool := decide (a.lo.k = b.lo.k) && (decide (a.hi.k = b.hi.k) && true)
end Go.Proofs.YtlhlcefkmhhmjaaGreat
namespace Go.Proofs.YtlhlcefkmhhmjaaGreat
set_option linter.all false
open Go.RowKit Bu Rx

theorem rng_in {x l h : F} {o : Obs} (k : ObsOk (rngO x l h o)) : (l.k ≤ x.k ∧ x.k ≤ h.k) ∧ ObsOk o := by
  have a := of_decide_eq_false (ob_h k)
  have b := of_decide_eq_false (ob_h (ob_t k))
  exact ⟨⟨by omega, by omega⟩, ob_t (ob_t k)⟩
theorem bnd_of {x l h : F} (k : l.k ≤ x.k ∧ x.k ≤ h.k) : ObsOk (bndO (pF x) l h) := ob_c (decide_eq_true k.2) (ob_c (decide_eq_true k.1) (ob_c (decide_eq_true (Int.le_refl _)) ob_n))
theorem uz_of {x : F} (k : z64.k ≤ x.k ∧ x.k ≤ one64.k) : Uz1 (pF x) := ⟨decide_eq_true (Int.le_refl _), k.1, k.2⟩
theorem lt3 {P : Nat → Prop} {c : Nat} (h : c < 3) (p0 : P 0) (p1 : P 1) (p2 : P 2) : P c := by
  rcases (by omega : c = 0 ∨ c = 1 ∨ c = 2) with rfl | rfl | rfl
  · exact p0
  · exact p1
  · exact p2
def Rn (l h : F) (x : F) : Prop := l.k ≤ x.k ∧ x.k ≤ h.k
theorem rt1_in {f : Nat → F} (h : ObsOk (rtOb 1 f)) {c : Nat} (hc : c < 3) : Rn z64 one64 (f c) := by
  have h : ObsOk (rtO1 f) := h
  obtain ⟨a2, h⟩ := rng_in (ob_t h)
  obtain ⟨a1, h⟩ := rng_in h
  obtain ⟨a0, _⟩ := rng_in h
  exact lt3 (P := fun c => Rn z64 one64 (f c)) hc a0 a1 a2
theorem rt2_in {f : Nat → F} (h : ObsOk (rtOb 2 f)) {c : Nat} (hc : c < 3) : Rn z64 one64 (f c) ∧ Rn z64 one64 (f 12) := by
  have h : ObsOk (rtO2 f) := h
  obtain ⟨a3, h⟩ := rng_in (ob_t h)
  obtain ⟨a2, h⟩ := rng_in h
  obtain ⟨a1, h⟩ := rng_in h
  obtain ⟨a0, _⟩ := rng_in h
  exact ⟨lt3 (P := fun c => Rn z64 one64 (f c)) hc a0 a1 a2, a3⟩
theorem rt3_in {f : Nat → F} (h : ObsOk (rtOb 3 f)) : Rn minA one64 (f 13) ∧ Rn minIo four64 (f 14) := by
  have h : ObsOk (rtO3 f) := h
  obtain ⟨a3, h⟩ := rng_in (ob_t h)
  obtain ⟨a2, _⟩ := rng_in h
  exact ⟨a2, a3⟩
theorem rt4_in {f : Nat → F} (h : ObsOk (rtOb 4 f)) {c : Nat} (hc : c < 3) : Rn minA one64 (f 13) ∧ Rn minMt maxMt (f (6 + c)) ∧ Rn minMt maxMt (f (9 + c)) := by
  have h : ObsOk (rtO4 f) := h
  obtain ⟨b2, h⟩ := rng_in (ob_t h)
  obtain ⟨b1, h⟩ := rng_in h
  obtain ⟨b0, h⟩ := rng_in h
  obtain ⟨a2, h⟩ := rng_in h
  obtain ⟨a1, h⟩ := rng_in h
  obtain ⟨a0, h⟩ := rng_in h
  obtain ⟨al, _⟩ := rng_in h
  exact ⟨al, lt3 (P := fun c => Rn minMt maxMt (f (6 + c))) hc a0 a1 a2, lt3 (P := fun c => Rn minMt maxMt (f (9 + c))) hc b0 b1 b2⟩
/-- kinds of a right node -/
theorem rt_kind {k : Int} {f : Nat → F} (h : ObsOk (rtOb k f)) : k = 1 ∨ k = 2 ∨ k = 3 ∨ k = 4 := by
  unfold rtOb at h
  split at h
  · exact .inl rfl
  · exact .inr (.inl rfl)
  · exact .inr (.inr (.inl rfl))
  · exact .inr (.inr (.inr rfl))
  · exact absurd (ob_h h) (by simp)
/-- a leaf that may be, two directions that may be, a channel -/
structure LfO (l : Lf) : Prop where
  r : ObsOk (rtOb l.k l.f)
  v : ObsOk (dirO l.v)
  u : ObsOk (dirO l.u)
  c0 : 0 ≤ l.c
  c3 : l.c < 3
theorem LfO.z {l : Lf} (h : LfO l) : LfO l.c0 := ⟨h.r, h.v, h.u, Int.le_refl _, by show (0 : Int) < 3; decide⟩
theorem LfO.n {l : Lf} (h : LfO l) : l.c.toNat < 3 := by have := h.c0; have := h.c3; omega
theorem LfO.ch {l : Lf} (h : LfO l) : ObsOk (chO l) := ob_c (decide_eq_true h.c3) (ob_c (decide_eq_true h.c0) ob_n)
theorem LfO.lk {l : Lf} (h : LfO l) : ObsOk (lkOl l) := ob_a h.u (ob_a h.v (ob_a (ob_c (decide_eq_true h.c3) (ob_c (decide_eq_true h.c0) ob_n)) h.r))
theorem LfO.gl {l : Lf} (h : LfO l) (a : Rn minA one64 (l.f 13)) : ObsOk (glO l.v l.u (pF (l.f 13))) := ob_a (bnd_of a) (ob_a h.v h.u)
theorem LfO.val {l : Lf} (h : LfO l) : ObsOk (vlO l) := by
  have r := h.r
  have lk := h.lk; have ch := h.ch; have n := h.n; have hv := h.v; have hu := h.u; have hg := h.gl
  unfold vlO
  rcases rt_kind r with e | e | e | e <;> rw [e] at r ⊢
  · exact ob_a lk (ob_a ch (bnd_of (rt1_in r n)))
  · obtain ⟨a, b⟩ := rt2_in r n
    exact ob_a lk (ob_a ch (ob_a (bnd_of a) (ob_a (bnd_of b) (ob_a hv hu))))
  · obtain ⟨a, b⟩ := rt3_in r
    exact ob_a lk (ob_a (hg a) (bnd_of b))
  · obtain ⟨a, b, c⟩ := rt4_in r n
    exact ob_a lk (ob_a ch (ob_a (hg a) (ob_a (bnd_of b) (bnd_of c))))
theorem LfO.den {l : Lf} (h : LfO l) : ObsOk (dnO4 l) := by
  have r := h.r
  have lk := h.lk; have ch := h.ch; have n := h.n; have hv := h.v; have hg := h.gl
  unfold dnO4
  rcases rt_kind r with e | e | e | e <;> rw [e] at r ⊢
  · exact ob_a lk (dir_z hv)
  · exact ob_a lk (dir_z hv)
  · exact ob_a lk (hg (rt3_in r).1)
  · exact ob_a lk (hg (rt4_in r n).1)
structure LfP (l : Lf) : Prop where
  r : ObsOk (rtOb l.k l.f)
  v : OneP l.v
  u : OneP l.u
  c0 : 0 ≤ l.c
  c3 : l.c < 3
theorem one_dir {v : V3} (h : OneP v) : ObsOk (dirO v) := by
  obtain ⟨a, b, c⟩ := one_box h
  have e : z64.k ≤ bzz.lo.k := by decide +kernel
  have r : ∀ {x : I}, x.lo.k ≤ x.hi.k → rt x = true := fun k => decide_eq_true k
  exact ob_c (decide_eq_true c.2.1) (ob_c (decide_eq_true (Int.le_trans e c.1)) (ob_c (decide_eq_true b.2.1) (ob_c (decide_eq_true b.1) (ob_c (decide_eq_true a.2.1) (ob_c (decide_eq_true a.1) (ob_c (r c.2.2) (ob_c (r b.2.2) (ob_c (r a.2.2) ob_n))))))))
theorem LfP.o {l : Lf} (h : LfP l) : LfO l := ⟨h.r, one_dir h.v, one_dir h.u, h.c0, h.c3⟩
set_option maxRecDepth 100000 in
theorem box_lb : lbV.all monoB = true ∧ (evalK KkR lbV [bz1] 0).2 = 0 ∧ z64.k ≤ (gt (evalK KkR lbV [bz1] 0).1 0).lo.k ∧ (evalK KkR lbV [bzz] 0).2 = 0 ∧ z64.k < (gt (evalK KkR lbV [bzz] 0).1 0).lo.k ∧ dtP.all monoB = true ∧ (evalK KkR dtP [bzz, b11, b11, bzz, b11, b11] 0).2 = 0 ∧ tw1 dtP dtP [3, 4, 5, 0, 1, 2] 0 0 = true := by decide +kernel
def dtV (v u : V3) : I := gt (dtK KkR v u).1 0
theorem meO_eq {f : Nat → F} {c : Nat} {v u : V3} (hz : (dtK KkR v u).2 = 0) : meO KkR GmR f c v u = orR KkR (pF (f c)) (pF (f 12)) v.z u.z (dtV v u) := by
  unfold meO
  rw [hz]
  rfl
end Go.Proofs.YtlhlcefkmhhmjaaGreat
namespace Go.Proofs.YtlhlcefkmhhmjaaGreat
set_option linter.all false
open Go.RowKit Bu Rx

/-- pairs.Value, also of a channel that may not be; pairs.Right, also of no node -/
def kVa (g : Lf → I × Int) (o : Lf → Obs) (x : Lf → Obs) : List SV → Dec → Option (SV × Dec × Obs)
  | [n, .i .i64 3, v, u], ds => match vaOf [n, .i .i64 3, v, u] with
    | some l => some (.tup [ivS I.zero, .i .i64 2], ds, x l)
    | none => none
  | l, ds => kVal g o l ds
def kRa (o : Int → (Nat → F) → Obs) : List SV → Dec → Option (SV × Dec × Obs)
  | [.agg [.i .u8 0, .fl a0, .fl a1, .fl a2, .fl a3, .fl a4, .fl a5, .fl a6, .fl a7, .fl a8, .fl a9, .fl a10, .fl a11, .fl a12, .fl a13, .fl a14, .fl a15, .i .i64 0, .i .i64 0]], ds => some (.b false, ds, [])
  | l, ds => kRt o l ds
theorem rt0Run (f : Nat → F) : valR ((run Tryz.prog EG (lookO (OCL KkR)) 80).1 8 [nodeS 0 f] [] (some [])) = some (.b false, some [], []) := by kernel_rfl
theorem rtAK : PlainOk Tryz.prog 8 (kRa rtOb) := by
  intro args ds x ds' ob h ho
  unfold kRa at h
  split at h
  · rename_i a0 a1 a2 a3 a4 a5 a6 a7 a8 a9 a10 a11 a12 a13 a14 a15
    simp only [Option.some.injEq, Prod.mk.injEq] at h
    obtain ⟨rfl, _, rfl⟩ := h
    exact ⟨_, _, rfl, rfl, fun w => calls_of_val goodG oracleCL 80 (rt0Run (ndF a0 a1 a2 a3 a4 a5 a6 a7 a8 a9 a10 a11 a12 a13 a14 a15)) ob_n rfl rfl w⟩
  · exact rtK _ _ _ _ _ h ho
def OVx (o : Int → (Nat → F) → Obs) (r : I → Bool) : OracleF := lookO [(8, plainO (kRt o)), (55, plainO (kBI r))]
def l3O (o : Int → (Nat → F) → Obs) (r : I → Bool) (l : Lf) : Obs := (r l.u.z, true) :: (r l.u.y, true) :: (r l.u.x, true) :: (r l.v.z, true) :: (r l.v.y, true) :: (r l.v.x, true) :: ((o l.k l.f ++ []) ++ [])
theorem va3Run (o : Int → (Nat → F) → Obs) (r : I → Bool) (k : Int) (f : Nat → F) (v u : V3) : valR ((run Tryz.prog EG (OVx o r) 80).1 9 [nodeS k f, .i .i64 3, v.sv, u.sv] [] (some [true, true, true, true, true, true])) = some (.tup [ivS I.zero, .i .i64 2], some [], l3O o r ⟨k, etaF f, 3, v, u⟩) := by kernel_rfl
theorem oracleVx : OracleOk Tryz.prog (OVx rtOb rt) := .cons rtK.of (.cons irtK.of (.nil _))
theorem vaAK : PlainOk Tryz.prog 9 (kVa (vlG GmR KkR) vlO (l3O rtOb rt)) := by
  intro args ds x ds' ob h ho
  unfold kVa at h
  split at h
  · split at h
    · rename_i l e
      simp only [Option.some.injEq, Prod.mk.injEq] at h
      obtain ⟨rfl, _, rfl⟩ := h
      obtain ⟨hf, vs, h1, h2⟩ := vaOf_plain e
      have hc : l.c = 3 := by
        unfold vaOf at e
        split at e
        · rename_i ch _ _ _ _ _ _ _ _ _ _ _ _ hh
          simp only [List.cons.injEq] at hh
          obtain ⟨_, hch, _⟩ := hh
          subst hch
          simp only [intS, Option.some.injEq] at e
          rw [← e]
        · cases e
      obtain ⟨k, f, c, v, u⟩ := l
      simp only at hf hc h2
      subst hc
      have h2' : plains [nodeS k f, .i .i64 3, v.sv, u.sv] = some vs := h2
      refine ⟨vs, _, h1, (plIt _ _).2, fun w => calls_of_val goodG oracleVx 80 (va3Run rtOb rt k f v u) ?_ h2' (plIt _ _).2 w⟩
      rw [hf]; exact ho
    · cases h
  · exact valK _ _ _ _ _ h ho
def OA11 (N : Nl) (x : Lf → Obs) : OracleF := lookO [(8, plainO (kRa N.ro)), (9, plainO (kVa N.vg N.vo x)), (10, plainO (kDe N.dg N.dO)), (35, plainO kPt)]
def upV : V3 := ⟨⟨z64, z64⟩, ⟨z64, z64⟩, ⟨one64, one64⟩⟩
def awF : Nat → F := ndF one64 (toF 4602678819172646912) z64 z64 z64 z64 z64 z64 z64 z64 z64 z64 z64 z64 z64 z64
def awG : Nat → F := ndF z64 z64 z64 z64 z64 z64 z64 z64 z64 z64 z64 z64 z64 (toF 4602678819172646912) (toF 4609434218613702656) z64
def awL (c : Int) : Lf := ⟨1, awF, c, upV, upV⟩
def awP : Lf := ⟨3, awG, 0, upV, upV⟩
def nrO (a : I) (l h : Nat) : Obs := [(decide (a.lo.k ≤ a.hi.k), true), (decide (a.hi.k ≤ (toF h).k), true), (decide ((toF l).k ≤ a.lo.k), true)]
def aw11 (N : Nl) (x : Lf → Obs) : Obs :=
  N.ro 1 awF ++ (nrO (N.dg awP).1 4599405781053817700 4599405781071832099 ++ (nrO (N.vg awP).1 4578493347781377788 4578493348357838540 ++ ((q2E (N.vg (awL 2)).1 I.zero, true) :: (nrO (N.vg (awL 1)).1 4594902181426447204 4594902181462476001 ++ (nrO (N.vg (awL 0)).1 4599405781053817700 4599405781071832099 ++
  ([(decide ((N.dg awP).2 = 0), true), (decide ((N.vg awP).2 = 0), true), (decide ((N.vg (awL 2)).2 = 0), true), (decide ((N.vg (awL 1)).2 = 0), true), (decide ((N.vg (awL 0)).2 = 0), true)] ++
  (N.dO awP ++ (N.vo awP ++ (x (awL 3) ++ (N.vo (awL 2) ++ (N.vo (awL 1) ++ (N.vo (awL 0) ++ []))))))))))))
def t18 : List Bool := [true, true, true, true, true, true, true, true, true, true, true, true, true, true, true, true, true, true]
theorem aw11Run (N : Nl) (x : Lf → Obs) : valR ((run Tryz.prog EG (OA11 N x) 80).1 12 [] [] (some t18)) = some (.b true, some [], aw11 N x) := by kernel_rfl
end Go.Proofs.YtlhlcefkmhhmjaaGreat
namespace Go.Proofs.YtlhlcefkmhhmjaaGreat
set_option linter.all false
open Go.RowKit Bu Rx

noncomputable def NlR : Nl := ⟨KkR, leK, leF bwF, U8.ok, twA (unV KkR) bwF, twB (unV KkR) bwF, U6.ok, rtOb, vlG GmR KkR, vlO, dnG4 GmR, dnO4, meetsB, frT, wN32⟩
set_option maxRecDepth 100000 in
theorem aw11_B : obsB (aw11 NlR (l3O rtOb rt)) = true := by decide +kernel
theorem oracleA11 : OracleOk Tryz.prog (OA11 NlR (l3O rtOb rt)) := .cons rtAK.of (.cons vaAK.of (.cons denK.of (.cons ptG.of (.nil _))))
theorem awake11G : PlainOk Tryz.prog 12 (oConst (.b true)) := constG rfl fun w => calls_of_val goodG oracleA11 80 (aw11Run NlR (l3O rtOb rt)) (ObsOk.of_B aw11_B) rfl rfl w
def u8v (u : U8) : Value := .agg #[.int .u32 u.a0, .int .u32 u.a1, .int .u32 u.a2, .int .u32 u.a3, .int .u32 u.a4, .int .u32 u.a5, .int .u32 u.a6, .int .u32 u.a7]
def u6v (u : U6) : Value := .agg #[.int .u32 u.a0, .int .u32 u.a1, .int .u32 u.a2, .int .u32 u.a3, .int .u32 u.a4, .int .u32 u.a5]
theorem leF_eta (u : U8) : etaF (leF bwF u) = leF bwF u := by
  unfold leF
  have e : ∀ a0 a1 a2 a3 a4 a5 a6 a7 a8 a9 a10 a11 a12 a13 a14 a15, etaF (ndL a0 a1 a2 a3 a4 a5 a6 a7 a8 a9 a10 a11 a12 a13 a14 a15) = ndL a0 a1 a2 a3 a4 a5 a6 a7 a8 a9 a10 a11 a12 a13 a14 a15 := fun _ _ _ _ _ _ _ _ _ _ _ _ _ _ _ _ => rfl
  cases decide (u.a0.tmod 4 = 0) <;> cases decide (u.a0.tmod 4 = 1) <;> cases decide (u.a0.tmod 4 = 2) <;> exact e ..
theorem ch_in3 {c : Int} (h : (Lit.int .u8 c).wf = true) : 0 ≤ chI c ∧ chI c < 3 := by
  have k : 0 ≤ c ∧ c ≤ 255 := by simpa [Lit.wf, IntKind.min, IntKind.max, IntKind.signed, IntKind.bits] using h
  have e : c.tmod 3 = c % 3 := Int.tmod_eq_emod_of_nonneg k.1
  unfold chI
  rw [e, IntKind.wrap_i64]
  omega
theorem u32_B {n : Int} (h : (Lit.int .u32 n).wf = true) : wN32 n = true := by
  have : 0 ≤ n ∧ n ≤ 4294967295 := by simpa [Lit.wf, IntKind.min, IntKind.max, IntKind.signed, IntKind.bits] using h
  exact decide_eq_true this
theorem u8_ok {x0 x1 x2 x3 x4 x5 x6 x7 : Int} (h0 : (Lit.int .u32 x0).wf = true) (h1 : (Lit.int .u32 x1).wf = true) (h2 : (Lit.int .u32 x2).wf = true) (h3 : (Lit.int .u32 x3).wf = true) (h4 : (Lit.int .u32 x4).wf = true) (h5 : (Lit.int .u32 x5).wf = true) (h6 : (Lit.int .u32 x6).wf = true) (h7 : (Lit.int .u32 x7).wf = true) : (U8.mk x0 x1 x2 x3 x4 x5 x6 x7).ok = true := by
  unfold U8.ok
  simp only [u32_B h0, u32_B h1, u32_B h2, u32_B h3, u32_B h4, u32_B h5, u32_B h6, u32_B h7, Bool.and_self]
theorem u6_ok {x0 x1 x2 x3 x4 x5 : Int} (h0 : (Lit.int .u32 x0).wf = true) (h1 : (Lit.int .u32 x1).wf = true) (h2 : (Lit.int .u32 x2).wf = true) (h3 : (Lit.int .u32 x3).wf = true) (h4 : (Lit.int .u32 x4).wf = true) (h5 : (Lit.int .u32 x5).wf = true) : (U6.mk x0 x1 x2 x3 x4 x5).ok = true := by
  unfold U6.ok
  simp only [u32_B h0, u32_B h1, u32_B h2, u32_B h3, u32_B h4, u32_B h5, Bool.and_self]
end Go.Proofs.YtlhlcefkmhhmjaaGreat
