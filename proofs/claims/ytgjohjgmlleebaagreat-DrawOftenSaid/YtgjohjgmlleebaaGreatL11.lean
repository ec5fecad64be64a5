/- VndfTurned, plain: what is rounded has one answer. Two lines of interval arithmetic side by side: each row of the one is a row of the other, or that turned; found by looking. What mirrors of a leaf send, plain: no errors, the same both ways, points. micro, fresnel, lambert by the reckoner. micro.Look and what it calls as known functions. Package mirror by the reckoner: Reflect, Straight. The reckoner: names that are given up; pieces that leave one of several states; functions that read a row. The reckoner: loops with what is known at every round; functions that read a row and other blocks. The reckoner: pieces seen from where a function began; names in another order. The reckoner: loops that return, or leave, at some round, seen from where the function began. check.Node: nodes of a program. check.Right: programs. -/
import Derived.Test.YtgjohjgmlleebaaGreatL10
import Derived.Test.YtgjohjgmlleebaaGreatL05
import Derived.Test.YtgjohjgmlleebaaGreatL08
namespace Bu
set_option linter.all false
open Rx Go

theorem Dn.one {r s : F} {v : Rat} (h : Dn r v) (k : Dn s v) : r = s := by
  have a := h.top _ k.le; have b := k.top _ h.le
  exact q_inj (by grind)
theorem Up.one {r s : F} {v : Rat} (h : Up r v) (k : Up s v) : r = s := by
  have a := h.bot _ k.ge; have b := k.bot _ h.ge
  exact q_inj (by grind)
theorem RD.one {v : Rat} {p s : F × Int} (h : RD v p) (k : RD v s) : p.2 = s.2 ∧ (p.2 = 0 → p.1 = s.1) := by
  rcases h with ⟨a, b⟩ | ⟨a, b⟩ <;> rcases k with ⟨c, d⟩ | ⟨c, d⟩
  · exact ⟨by rw [a, c], fun _ => b.one d⟩
  · exact absurd (d p.1) (by have := b.le; grind)
  · exact absurd (b s.1) (by have := d.le; grind)
  · exact ⟨by rw [a, c], fun h => by rw [a] at h; exact absurd h (by decide)⟩
theorem RU.one {v : Rat} {p s : F × Int} (h : RU v p) (k : RU v s) : p.2 = s.2 ∧ (p.2 = 0 → p.1 = s.1) := by
  rcases h with ⟨a, b⟩ | ⟨a, b⟩ <;> rcases k with ⟨c, d⟩ | ⟨c, d⟩
  · exact ⟨by rw [a, c], fun _ => b.one d⟩
  · exact absurd (d p.1) (by have := b.ge; grind)
  · exact absurd (b s.1) (by have := d.ge; grind)
  · exact ⟨by rw [a, c], fun h => by rw [a] at h; exact absurd h (by decide)⟩
theorem SqD.one {r s a : F} (h : SqD r a) (k : SqD s a) : r = s := by
  have a := h.top _ k.nn k.le; have b := k.top _ h.nn h.le
  exact q_inj (by grind)
theorem SqU.one {r s a : F} (h : SqU r a) (k : SqU s a) : r = s := by
  have a := h.bot _ k.nn k.ge; have b := k.bot _ h.nn h.ge
  exact q_inj (by grind)
/-- the other way round, turned -/
theorem Dn.turn {r : F} {v : Rat} (h : Dn r v) : Up r.neg (-v) := by
  refine ⟨by rw [q_neg]; have := h.le; grind, fun c hc => ?_⟩
  have := h.top c.neg (by rw [q_neg]; grind)
  rw [q_neg] at this ⊢; grind
theorem Up.turn {r : F} {v : Rat} (h : Up r v) : Dn r.neg (-v) := by
  refine ⟨by rw [q_neg]; have := h.ge; grind, fun c hc => ?_⟩
  have := h.bot c.neg (by rw [q_neg]; grind)
  rw [q_neg] at this ⊢; grind
theorem I.one {a b : I} (h1 : a.lo = b.lo) (h2 : a.hi = b.hi) : a = b := by cases a; cases b; simp only at h1 h2; subst h1; subst h2; rfl
theorem AllR.one {r u : I} {p q s t p' q' s' t' : Rat} (h : AllR r p q s t) (k : AllR u p' q' s' t')
    (hp : (p' = p ∨ p' = q ∨ p' = s ∨ p' = t) ∧ (q' = p ∨ q' = q ∨ q' = s ∨ q' = t) ∧ (s' = p ∨ s' = q ∨ s' = s ∨ s' = t) ∧ (t' = p ∨ t' = q ∨ t' = s ∨ t' = t))
    (hk : (p = p' ∨ p = q' ∨ p = s' ∨ p = t') ∧ (q = p' ∨ q = q' ∨ q = s' ∨ q = t') ∧ (s = p' ∨ s = q' ∨ s = s' ∨ s = t') ∧ (t = p' ∨ t = q' ∨ t = s' ∨ t = t')) : r = u := by
  obtain ⟨a1, a2, a3, a4⟩ := h.lo; obtain ⟨b1, b2, b3, b4⟩ := h.hi
  obtain ⟨c1, c2, c3, c4⟩ := k.lo; obtain ⟨d1, d2, d3, d4⟩ := k.hi
  have e1 : ∀ x, (x = p ∨ x = q ∨ x = s ∨ x = t) → r.lo.q ≤ x ∧ x ≤ r.hi.q := by rintro x (rfl | rfl | rfl | rfl) <;> exact ⟨by assumption, by assumption⟩
  have e2 : ∀ x, (x = p' ∨ x = q' ∨ x = s' ∨ x = t') → u.lo.q ≤ x ∧ x ≤ u.hi.q := by rintro x (rfl | rfl | rfl | rfl) <;> exact ⟨by assumption, by assumption⟩
  obtain ⟨p1, p2, p3, p4⟩ := hp; obtain ⟨k1, k2, k3, k4⟩ := hk
  have f1 := k.top (e1 _ p1).1 (e1 _ p2).1 (e1 _ p3).1 (e1 _ p4).1
  have f2 := h.top (e2 _ k1).1 (e2 _ k2).1 (e2 _ k3).1 (e2 _ k4).1
  have g1 := k.bot (e1 _ p1).2 (e1 _ p2).2 (e1 _ p3).2 (e1 _ p4).2
  have g2 := h.bot (e2 _ k1).2 (e2 _ k2).2 (e2 _ k3).2 (e2 _ k4).2
  exact I.one (q_inj (by grind)) (q_inj (by grind))
theorem turn_q (a : I) : (turnI a).lo.q = -a.hi.q ∧ (turnI a).hi.q = -a.lo.q := ⟨q_neg _, q_neg _⟩
theorem AllR.turn {r : I} {p q s t : Rat} (h : AllR r p q s t) : AllR (turnI r) (-p) (-q) (-s) (-t) := by
  obtain ⟨a1, a2, a3, a4⟩ := h.lo; obtain ⟨b1, b2, b3, b4⟩ := h.hi
  obtain ⟨e1, e2⟩ := turn_q r
  refine ⟨⟨by grind, by grind, by grind, by grind⟩, ⟨by grind, by grind, by grind, by grind⟩, ?_, ?_⟩
  · rcases h.hiE with k | k | k | k
    · exact .inl k.turn
    · exact .inr (.inl k.turn)
    · exact .inr (.inr (.inl k.turn))
    · exact .inr (.inr (.inr k.turn))
  · rcases h.loE with k | k | k | k
    · exact .inl k.turn
    · exact .inr (.inl k.turn)
    · exact .inr (.inr (.inl k.turn))
    · exact .inr (.inr (.inr k.turn))
section
variable {v w : List I} {i j i' j' : Nat} {r u : I}
end
end Bu
namespace Bu
set_option linter.all false
open Rx Go

/-- all rows tell what they do, of right arguments -/
def ChainR : List Bu.Op → List I → List I → Prop
  | [], v, u => u = v
  | o :: l, v, u => ∃ r, (Fact o v r ∧ ArgsRt o v) ∧ ChainR l (r :: v) u
theorem eval_chainR : ∀ {l : List Bu.Op} {v : List I} {e : Int}, (evalK KkR l v e).2 = 0 → ChainR l v (evalK KkR l v e).1
  | [], _, _, _ => rfl
  | o :: l, v, e, h => by
    have h2 := eval_chainR (l := l) h
    obtain ⟨g1, g3, g2⟩ := step_fact (eval_chain (l := l) h).1
    exact ⟨_, ⟨g2, g3⟩, h2⟩
theorem chain_drop : ∀ {l : List Bu.Op} {v u : List I}, ChainR l v u → u.drop l.length = v
  | [], v, u, h => h
  | o :: l, v, u, ⟨r, _, h⟩ => by
    have := chain_drop h
    rw [show (o :: l).length = l.length + 1 from rfl, ← List.drop_drop, this]; rfl
theorem chain_at : ∀ {l : List Bu.Op} {v u : List I}, ChainR l v u → ∀ {p : Nat} {o : Bu.Op}, l.reverse[p]? = some o → Fact o (u.drop (p + 1)) (gt u p) ∧ ArgsRt o (u.drop (p + 1))
  | [], _, _, _, p, o, h => by simp at h
  | o :: l, v, u, ⟨r, f, h⟩, p, o', hp => by
    rw [List.reverse_cons] at hp
    by_cases k : p < l.reverse.length
    · rw [List.getElem?_append_left k] at hp
      exact chain_at h hp
    · rw [List.getElem?_append_right (by omega)] at hp
      have hl : l.reverse.length = l.length := List.length_reverse
      have d := chain_drop h
      have e : p - l.reverse.length = 0 := by
        cases c : p - l.reverse.length with
        | zero => rfl
        | succ n => rw [c] at hp; simp at hp
      rw [e] at hp
      have pe : p = l.length := by omega
      subst pe
      have eo : o = o' := by simpa using hp
      subst eo
      have e1 : gt u l.length = r := by
        have : (u.drop l.length)[0]? = some r := by rw [d]; rfl
        rw [List.getElem?_drop] at this
        unfold gt
        rw [List.getD_eq_getElem?_getD, show l.length = l.length + 0 from rfl, this]; rfl
      have e2 : u.drop (l.length + 1) = v := by rw [← List.drop_drop, d]; rfl
      rw [e1, e2]; exact f
end Bu
namespace Bu
set_option linter.all false
open Rx Go

theorem one_box {v : V3} (h : OneP v) : InB v.x b11 ∧ InB v.y b11 ∧ InB v.z bzz := by
  have e : bzz.lo.q = 1 / 128 := by have : bzz.lo.q * 128 = 1 := q_of' (n := 1) (s := 7) (by decide +kernel) rfl; grind
  exact ⟨⟨h.x.lo, h.x.hi, h.x.rt⟩, ⟨h.y.lo, h.y.hi, h.y.rt⟩, ⟨q_le.1 (by rw [e]; exact h.up), h.z.hi, h.z.rt⟩⟩
end Bu
namespace Bu
set_option linter.all false
open Rx Go

/-- value, or error: of a line's place -/
def lnR (E : List I × Int) (i : Nat) : I × Int := bif neB E.2 then (I.zero, E.2) else (gt E.1 i, 0)
def fdK (K : Kk) (c n : I) : List I × Int := evalK K frD [c, n] 0
def u01O (c : I) : Obs := [(decide (c.hi.k ≤ one64.k), true), (decide (z64.k ≤ c.lo.k), true), (rt c, true)]
def bndO (c : I) (l h : F) : Obs := [(decide (c.hi.k ≤ h.k), true), (decide (l.k ≤ c.lo.k), true), (rt c, true)]
def kHf (f : V3 → V3 → List I × Int) : List SV → Dec → Option (SV × Dec × Obs)
  | [.agg [.fl a, .fl b, .fl c, .fl d, .fl e, .fl f'], .agg [.fl g, .fl h, .fl i, .fl j, .fl k, .fl l]], ds =>
    some (.tup [.agg [.fl (lnR (f ⟨⟨a, b⟩, ⟨c, d⟩, ⟨e, f'⟩⟩ ⟨⟨g, h⟩, ⟨i, j⟩, ⟨k, l⟩⟩) 0).1.lo, .fl (lnR (f ⟨⟨a, b⟩, ⟨c, d⟩, ⟨e, f'⟩⟩ ⟨⟨g, h⟩, ⟨i, j⟩, ⟨k, l⟩⟩) 0).1.hi], .agg [.fl (lnR (f ⟨⟨a, b⟩, ⟨c, d⟩, ⟨e, f'⟩⟩ ⟨⟨g, h⟩, ⟨i, j⟩, ⟨k, l⟩⟩) 3).1.lo, .fl (lnR (f ⟨⟨a, b⟩, ⟨c, d⟩, ⟨e, f'⟩⟩ ⟨⟨g, h⟩, ⟨i, j⟩, ⟨k, l⟩⟩) 3).1.hi], .si .i64 (f ⟨⟨a, b⟩, ⟨c, d⟩, ⟨e, f'⟩⟩ ⟨⟨g, h⟩, ⟨i, j⟩, ⟨k, l⟩⟩).2], ds, dirO ⟨⟨a, b⟩, ⟨c, d⟩, ⟨e, f'⟩⟩ ++ dirO ⟨⟨g, h⟩, ⟨i, j⟩, ⟨k, l⟩⟩)
  | _, _ => none
def kI2 (f : I → I → I × Int) (o : I → I → Obs) : List SV → Dec → Option (SV × Dec × Obs)
  | [.agg [.fl a, .fl b], .agg [.fl c, .fl d]], ds => some (.tup [.agg [.fl (f ⟨a, b⟩ ⟨c, d⟩).1.lo, .fl (f ⟨a, b⟩ ⟨c, d⟩).1.hi], .si .i64 (f ⟨a, b⟩ ⟨c, d⟩).2], ds, o ⟨a, b⟩ ⟨c, d⟩)
  | _, _ => none
end Bu
namespace Go.Proofs.YtgjohjgmlleebaaGreat
set_option linter.all false
open Go.RowKit Bu Rx

theorem fdRun (K : Kk) (c n : I) (b : Bool) : valR ((run Tryz.prog EG (lookO (OCL K)) 80).1 27 [ivS c, ivS n] [] (some [true, true, false, false, false, false, b])) = some (.tup (bif b then [ivS I.zero, .si .i64 (fdK K c n).2] else [ivS (gt (fdK K c n).1 0), .i .i64 0]), some [], [(neB (fdK K c n).2, b), (decide (four64.k < n.hi.k), false), (decide (n.lo.k < minIo.k), false), (decide (one64.k < c.hi.k), false), (decide (c.lo.k < z64.k), false), (rt n, true), (rt c, true)]) := by cases b <;> kernel_rfl
end Go.Proofs.YtgjohjgmlleebaaGreat
namespace Bu
set_option linter.all false
open Rx Go

theorem ob_c {c b : Bool} {ob : Obs} (h : c = b) (k : ObsOk ob) : ObsOk ((c, b) :: ob) := fun q hq => by
  rcases List.mem_cons.1 hq with rfl | hq
  · exact h
  · exact k q hq
theorem ob_n : ObsOk [] := fun _ h => by cases h
theorem ob_a {a b : Obs} (h : ObsOk a) (k : ObsOk b) : ObsOk (a ++ b) := fun q hq => by
  rcases List.mem_append.1 hq with hq | hq
  · exact h q hq
  · exact k q hq
theorem ob_l {a b : Obs} (h : ObsOk (a ++ b)) : ObsOk a := fun q hq => h q (List.mem_append_left _ hq)
theorem ob_r {a b : Obs} (h : ObsOk (a ++ b)) : ObsOk b := fun q hq => h q (List.mem_append_right _ hq)
theorem ob_h {c b : Bool} {ob : Obs} (h : ObsOk ((c, b) :: ob)) : c = b := h (c, b) (List.mem_cons_self ..)
theorem ob_t {c b : Bool} {ob : Obs} (h : ObsOk ((c, b) :: ob)) : ObsOk ob := fun q hq => h q (List.mem_cons_of_mem _ hq)
theorem not_lt {a b : Int} (h : decide (a ≤ b) = true) : decide (b < a) = false := decide_eq_false (by have := of_decide_eq_true h; omega)
def fdO (c n : I) : Obs := bndO n minIo four64 ++ u01O c
structure Gl4 where
  ln : I
  hf : I
  v : I
  d : I
def Gl4.sv (g : Gl4) : SV := .agg [.fl g.ln.lo, .fl g.ln.hi, .fl g.hf.lo, .fl g.hf.hi, .fl g.v.lo, .fl g.v.hi, .fl g.d.lo, .fl g.d.hi]
def Gl4.zero : Gl4 := ⟨I.zero, I.zero, I.zero, I.zero⟩
def glO (v u : V3) (al : I) : Obs := alO al ++ (dirO v ++ dirO u)
end Bu
namespace Go.Proofs.YtgjohjgmlleebaaGreat
set_option linter.all false
open Go.RowKit Bu Rx

theorem I2_of {g : FuncId} {O : OracleF} (hO : OracleOk Tryz.prog O) {n : Nat} {E : I → I → List I × Int} {i : Nat} {o o' : I → I → Obs} {l : Bool → List Bool} (run : ∀ c d b, valR ((run Tryz.prog EG O n).1 g [ivS c, ivS d] [] (some (l b))) = some (.tup (bif b then [ivS I.zero, .si .i64 (E c d).2] else [ivS (gt (E c d).1 i), .i .i64 0]), some [], (neB (E c d).2, b) :: o' c d))
    (ho : ∀ c d, ObsOk (o c d) → ObsOk (o' c d)) : PlainOk Tryz.prog g (kI2 (fun c d => lnR (E c d) i) o) := by
  intro args ds x ds' ob h hob
  unfold kI2 at h
  split at h
  · rename_i a b c d
    simp only [Option.some.injEq, Prod.mk.injEq] at h
    obtain ⟨rfl, _, rfl⟩ := h
    refine ⟨[.agg #[.float .f64 a.b, .float .f64 b.b], .agg #[.float .f64 c.b, .float .f64 d.b]], _, rfl, rfl, fun w => ?_⟩
    have r := run ⟨a, b⟩ ⟨c, d⟩ (neB (E ⟨a, b⟩ ⟨c, d⟩).2)
    unfold lnR
    cases k : neB (E ⟨a, b⟩ ⟨c, d⟩).2 <;> rw [k] at r <;> exact calls_of_val goodG hO n r (ob_c rfl (ho _ _ hob)) rfl rfl w
  · cases h
theorem fdG : PlainOk Tryz.prog 27 (kI2 (fun c n => lnR (fdK KkR c n) 0) fdO) := I2_of oracleCL (l := fun b => [true, true, false, false, false, false, b]) (fdRun KkR) fun c n h => by
  have a := ob_l h; have b := ob_r h
  exact ob_c (not_lt (ob_h a)) (ob_c (not_lt (ob_h (ob_t a))) (ob_c (not_lt (ob_h b)) (ob_c (not_lt (ob_h (ob_t b))) (ob_c (ob_h (ob_t (ob_t a))) (ob_c (ob_h (ob_t (ob_t b))) ob_n)))))
end Go.Proofs.YtgjohjgmlleebaaGreat
namespace Bu
set_option linter.all false
open Rx Go
/-- of X, Y, Z, U, V, W -/
def reP : List Op := [.num (two64), .mul 6 3, .mul 6 3, .add 1 0, .mul 7 4, .add 1 0, .mul 5 0, .mul 0 9, .mul 1 9, .mul 2 9, .sub 2 15, .sub 2 15, .sub 2 15, .kept mone64 one64 2, .kept mone64 one64 2, .kept mone64 one64 2]
def reE (K : Kk) (v w : V3) : List I × Int := evalK K reP [w.z, w.y, w.x, v.z, v.y, v.x] 0
def reR (K : Kk) (v w : V3) : V3 × Int := bif neB (reE K v w).2 then (V3.zero, (reE K v w).2) else (⟨gt (reE K v w).1 2, gt (reE K v w).1 1, gt (reE K v w).1 0⟩, 0)
def in1O (a : I) : Obs := [(decide (a.hi.k ≤ one64.k), true), (decide (mone64.k ≤ a.lo.k), true), (rt a, true)]
def reO (v w : V3) : Obs := in1O w.z ++ (in1O w.y ++ (in1O w.x ++ (in1O v.z ++ (in1O v.y ++ in1O v.x))))
def kRe (f : V3 → V3 → V3 × Int) : List SV → Dec → Option (SV × Dec × Obs)
  | [.agg [.fl a, .fl b, .fl c, .fl d, .fl e, .fl f'], .agg [.fl a2, .fl b2, .fl c2, .fl d2, .fl e2, .fl f2]], ds =>
    some (.tup [(f ⟨⟨a, b⟩, ⟨c, d⟩, ⟨e, f'⟩⟩ ⟨⟨a2, b2⟩, ⟨c2, d2⟩, ⟨e2, f2⟩⟩).1.sv, .si .i64 (f ⟨⟨a, b⟩, ⟨c, d⟩, ⟨e, f'⟩⟩ ⟨⟨a2, b2⟩, ⟨c2, d2⟩, ⟨e2, f2⟩⟩).2], ds, reO ⟨⟨a, b⟩, ⟨c, d⟩, ⟨e, f'⟩⟩ ⟨⟨a2, b2⟩, ⟨c2, d2⟩, ⟨e2, f2⟩⟩)
  | _, _ => none
/-- straight on: turned, turned, kept -/
def ngF (x : F) : F := toF ((Ieee.double.sub (toF 0).b x.b).getD 0)
def kpF (x : F) : F := toF ((Ieee.double.add x.b (toF 0).b).getD 0)
def ngO (x : F) : Obs := [((Ieee.double.sub (toF 0).b x.b).isSome, true), (rightB ((Ieee.double.sub (toF 0).b x.b).getD 0), true)]
def kpO (x : F) : Obs := [((Ieee.double.add x.b (toF 0).b).isSome, true), (rightB ((Ieee.double.add x.b (toF 0).b).getD 0), true)]
end Bu
namespace Go.Proofs.YtgjohjgmlleebaaGreat
set_option linter.all false
open Go.RowKit Bu Rx
theorem ngF_eq (x : F) : ngF x = x.neg := by unfold ngF; rw [toF0, sub_zero_F, Option.getD_some, toF_F]
theorem kpF_eq (x : F) : kpF x = x := by unfold kpF; rw [add_zero_F, Option.getD_some, toF_F]
theorem ngO_ok (x : F) : ObsOk (ngO x) := by
  unfold ngO
  rw [toF0, sub_zero_F]
  exact ob_c rfl (ob_c (right_F _) ob_n)
theorem kpO_ok (x : F) : ObsOk (kpO x) := by
  unfold kpO
  rw [add_zero_F]
  exact ob_c rfl (ob_c (right_F _) ob_n)
def t18 : List Bool := List.replicate 18 true
theorem reRun0 (K : Kk) (v w : V3) : valR ((run Tryz.prog EG (lookO (OCL K)) 80).1 118 [v.sv, w.sv] [] (some (t18 ++ [false]))) = some (.tup [V3.sv ⟨gt (reE K v w).1 2, gt (reE K v w).1 1, gt (reE K v w).1 0⟩, .i .i64 0], some [], (neB (reE K v w).2, false) :: reO v w) := by kernel_rfl
theorem reRun1 (K : Kk) (v w : V3) : valR ((run Tryz.prog EG (lookO (OCL K)) 80).1 118 [v.sv, w.sv] [] (some (t18 ++ [true]))) = some (.tup [V3.zero.sv, .si .i64 (reE K v w).2], some [], (neB (reE K v w).2, true) :: reO v w) := by kernel_rfl
def OSt (un : F → F → F → V3) (ub : F → F → F → Bool) : OracleF := lookO [(33, plainO (kUn un ub))]
theorem stRun (un : F → F → F → V3) (ub : F → F → F → Bool) (x y z : F) : valR ((run Tryz.prog EG (OSt un ub) 80).1 69 [.agg [.fl x, .fl y, .fl z]] [] (some [true])) = some (.tup [.agg [.fl (ngF x), .fl (ngF y), .fl (kpF z)], .i .i64 0], some [], kpO z ++ (ngO y ++ (ngO x ++ [(ub x y z, true)]))) := by kernel_rfl
theorem reG_of (K : Kk) (hO : OracleOk Tryz.prog (lookO (OCL K))) : PlainOk Tryz.prog 118 (kRe (reR K)) := by
  intro args ds x ds' ob h ho
  unfold kRe at h
  split at h
  · rename_i x1 x2 y1 y2 z1 z2 u1 u2 v1 v2 w1 w2
    simp only [Option.some.injEq, Prod.mk.injEq] at h
    obtain ⟨rfl, _, rfl⟩ := h
    generalize hv : (⟨⟨x1, x2⟩, ⟨y1, y2⟩, ⟨z1, z2⟩⟩ : V3) = v at *
    generalize hw : (⟨⟨u1, u2⟩, ⟨v1, v2⟩, ⟨w1, w2⟩⟩ : V3) = u at *
    have e1 : (.agg [.fl x1, .fl x2, .fl y1, .fl y2, .fl z1, .fl z2] : SV) = v.sv := by subst hv; rfl
    have e2 : (.agg [.fl u1, .fl u2, .fl v1, .fl v2, .fl w1, .fl w2] : SV) = u.sv := by subst hw; rfl
    rw [e1, e2]
    have hargs : plains [v.sv, u.sv] = some [.agg #[.float .f64 v.x.lo.b, .float .f64 v.x.hi.b, .float .f64 v.y.lo.b, .float .f64 v.y.hi.b, .float .f64 v.z.lo.b, .float .f64 v.z.hi.b], .agg #[.float .f64 u.x.lo.b, .float .f64 u.x.hi.b, .float .f64 u.y.lo.b, .float .f64 u.y.hi.b, .float .f64 u.z.lo.b, .float .f64 u.z.hi.b]] := rfl
    unfold reR
    cases k : neB (reE K v u).2
    · refine ⟨_, _, hargs, rfl, fun w => ?_⟩
      exact calls_of_val goodG hO 80 (reRun0 K v u) (fun q hq => by
        rcases List.mem_cons.1 hq with rfl | hq
        · exact k
        · exact ho q hq) hargs rfl w
    · refine ⟨_, _, hargs, rfl, fun w => ?_⟩
      exact calls_of_val goodG hO 80 (reRun1 K v u) (fun q hq => by
        rcases List.mem_cons.1 hq with rfl | hq
        · exact k
        · exact ho q hq) hargs rfl w
  · cases h
theorem reG : PlainOk Tryz.prog 118 (kRe (reR KkR)) := reG_of KkR oracleCL
/-- straight on, of a triple with a unit vector -/
def kSt (ub : F → F → F → Bool) : List SV → Dec → Option (SV × Dec × Obs)
  | [.agg [.fl x, .fl y, .fl z]], ds => some (.tup [.agg [.fl x.neg, .fl y.neg, .fl z], .i .i64 0], ds, [(ub x y z, true)])
  | _, _ => none
theorem stG : PlainOk Tryz.prog 69 (kSt unB) := by
  intro args ds x ds' ob h ho
  unfold kSt at h
  split at h
  · rename_i x y z
    simp only [Option.some.injEq, Prod.mk.injEq] at h
    obtain ⟨rfl, _, rfl⟩ := h
    refine ⟨[.agg #[.float .f64 x.b, .float .f64 y.b, .float .f64 z.b]], _, rfl, rfl, fun w => ?_⟩
    have hr := stRun (unV KkR) unB x y z
    rw [ngF_eq, ngF_eq, kpF_eq] at hr
    exact calls_of_val goodG (.cons unG.of (.nil _)) 80 hr (ob_a (kpO_ok z) (ob_a (ngO_ok y) (ob_a (ngO_ok x) ho))) rfl rfl w
  · cases h
end Go.Proofs.YtgjohjgmlleebaaGreat
namespace Rx
set_option linter.all false
open Go Go.RowKit

/-- the first names alone -/
def Nms.cut (m : Nms) (k : Nat) : Nms := ⟨fun n => if n < k then m n else none, m.c⟩
theorem cut_some {m : Nms} {k n r : Nat} (h : n < k) (hr : m n = some r) : m.cut k n = some r := by
  show (if n < k then m n else none) = _
  rw [if_pos h]; exact hr
theorem cut_inv {m : Nms} {k n r : Nat} (h : m.cut k n = some r) : n < k ∧ m n = some r := by
  have h' : (if n < k then m n else none) = some r := h
  by_cases hk : n < k
  · rw [if_pos hk] at h'; exact ⟨hk, h'⟩
  · rw [if_neg hk] at h'; cases h'
mutual
theorem den_cut {m : Nms} {k : Nat} : ∀ {x : SV} {v : Value}, idsLt k x = true → den m x = some v → den (m.cut k) x = some v
  | .b _, v, _, h => by simpa [den] using h
  | .i _ _, v, _, h => by simpa [den] using h
  | .si _ _, v, _, h => by simpa [den] using h
  | .f _, v, _, h => by simpa [den] using h
  | .fl _, v, _, h => by simpa [den] using h
  | .np, v, _, h => by simpa [den] using h
  | .o _, v, _, h => by simpa [den] using h
  | .p n off, v, hk, h => by
    simp only [den, Option.map_eq_some_iff] at h ⊢
    obtain ⟨r, hr, e⟩ := h
    exact ⟨r, cut_some (Nat.blt_eq.mp hk) hr, e⟩
  | .sp n off, v, hk, h => by
    simp only [den, Option.map_eq_some_iff] at h ⊢
    obtain ⟨r, hr, e⟩ := h
    exact ⟨r, cut_some (Nat.blt_eq.mp hk) hr, e⟩
  | .sl n off len cap, v, hk, h => by
    simp only [den, Option.map_eq_some_iff] at h ⊢
    obtain ⟨r, hr, e⟩ := h
    exact ⟨r, cut_some (Nat.blt_eq.mp hk) hr, e⟩
  | .ssl n off len cap, v, hk, h => by
    simp only [den, Option.map_eq_some_iff] at h ⊢
    obtain ⟨r, hr, e⟩ := h
    exact ⟨r, cut_some (Nat.blt_eq.mp hk) hr, e⟩
  | .osl y n len, v, hk, h => by
    simp only [den, Option.bind_eq_some_iff] at h ⊢
    obtain ⟨r, hr, e⟩ := h
    exact ⟨r, cut_some (Nat.blt_eq.mp hk) hr, e⟩
  | .fn f first cap, v, hk, h => by
    simp only [idsLt, Bool.and_eq_true] at hk
    simp only [den, Option.bind_eq_some_iff, Option.map_eq_some_iff] at h ⊢
    obtain ⟨x, hx, y, hy, e⟩ := h
    exact ⟨x, dens_cut hk.1 hx, y, dens_cut hk.2 hy, e⟩
  | .agg l, v, hk, h => by
    simp only [idsLt] at hk
    simp only [den, Option.map_eq_some_iff] at h ⊢
    obtain ⟨x, hx, e⟩ := h; exact ⟨x, dens_cut hk hx, e⟩
  | .tup l, v, hk, h => by
    simp only [idsLt] at hk
    simp only [den, Option.map_eq_some_iff] at h ⊢
    obtain ⟨x, hx, e⟩ := h; exact ⟨x, dens_cut hk hx, e⟩
theorem dens_cut {m : Nms} {k : Nat} : ∀ {l : List SV} {vs : List Value}, idsLts k l = true → dens m l = some vs → dens (m.cut k) l = some vs
  | [], vs, _, h => by simpa [dens] using h
  | x :: l, vs, hk, h => by
    simp only [idsLts, Bool.and_eq_true] at hk
    obtain ⟨v, us, a, b, rfl⟩ := dens_cons_some.1 h
    exact dens_cons (den_cut hk.1 a) (dens_cut hk.2 b)
end
/-- what speaks of names that are given up stands as it is -/
def hol (k : Nat) (v : Nat → Value) : Nat → List SV → List SV
  | _, [] => []
  | j, x :: l => (match idsLt k x with
    | true => x
    | false => .o (v j)) :: hol k v (j + 1) l
theorem hol_ok {m : Nms} {k : Nat} {v : Nat → Value} : ∀ {T : List SV} {vs : List Value} {j : Nat}, dens m T = some vs → (∀ i u, vs[i]? = some u → v (j + i) = u) → dens (m.cut k) (hol k v j T) = some vs
  | [], vs, j, h, _ => by simp [dens] at h; subst h; simp [hol, dens]
  | x :: l, vs, j, h, hv => by
    obtain ⟨u, us, a, b, rfl⟩ := dens_cons_some.1 h
    have ih := hol_ok (k := k) (v := v) (j := j + 1) b (fun i u hu => by rw [show j + 1 + i = j + (i + 1) by omega]; exact hv (i + 1) u (by simpa using hu))
    unfold hol
    refine dens_cons ?_ ih
    cases hx : idsLt k x
    · have := hv 0 u (by simp)
      rw [Nat.add_zero] at this
      simp only [den, this]
    · exact den_cut hx a
def St.cut (s : St) (k : Nat) (v : Nat → Value) : St := ⟨hol k v 0 s.T, s.M.take k, s.ds, s.ob⟩
theorem live_take {M : List Blk} {k n : Nat} (h : liveM (M.take k) n) : liveM M n ∧ n < k := by
  obtain ⟨b, hb, hl⟩ := h
  rw [List.getElem?_take] at hb
  split at hb
  · rename_i hk; exact ⟨⟨b, hb, hl⟩, hk⟩
  · cases hb
theorem StAt.cut {m : Nms} {s : St} {a : Act} {w : World} (h : StAt m s a w) {k : Nat} (hB : ∀ b ∈ s.M.take k, idsLts k b.cells = true) : StAt (m.cut k) (s.cut k (fun j => a.tmps.getD j undef)) a w := by
  refine ⟨hol_ok h.tm (fun i u hu => ?_), h.df, ⟨⟨fun n r hr => h.mem.ok.lt n r (cut_inv hr).2⟩, fun n n' r l1 l2 h1 h2 => h.mem.inj n n' r (live_take l1).1 (live_take l2).1 (cut_inv h1).2 (cut_inv h2).2, fun n b hb => ?_, fun n r hr => ?_⟩⟩
  · rw [Nat.zero_add]
    have hu' : a.tmps[i]? = some u := by simpa using hu
    simp [Array.getD_eq_getD_getElem?, hu']
  · have hb0 : (s.M.take k)[n]? = some b := hb
    have hmem := List.mem_of_getElem? hb0
    rw [List.getElem?_take] at hb0
    split at hb0
    · rename_i hk
      obtain ⟨r, hr, hat⟩ := h.mem.blk n b hb0
      refine ⟨r, cut_some hk hr, fun hl => ?_⟩
      obtain ⟨cv, sp, d, hh, kk⟩ := hat hl
      exact ⟨cv, sp, dens_cut (hB b hmem) d, hh, kOk_ext kk rfl id⟩
    · cases hb0
  · obtain ⟨h1, h2⟩ := cut_inv hr
    have := h.mem.dom n r h2
    show n < (s.M.take k).length
    rw [List.length_take]; omega

/-- a piece that leaves one of several states -/
def RunsP (P : Program) (c : Code) (s : St) (ex : Ex) (Φ : St → Prop) : Prop :=
  ∀ m a w (Q : Exit → Act → World → Prop), StAt m s a w → (∀ s' m' a' w', Φ s' → StAt m' s' a' w' → Goes m s.M w m' s'.M w' → Q (exOf ex) a' w') → c.wp P Q a w
def RoundsP (P : Program) (body : Code) (n : Nat) (s : St) (ex : Ex) (Φ : St → Prop) : Prop :=
  ∀ m a w (Q : Exit → Act → World → Prop), StAt m s a w → (∀ s' m' a' w', Φ s' → StAt m' s' a' w' → Goes m s.M w m' s'.M w' → Q (exOf ex) a' w') → Code.rounds P body Q n a w
section
variable {P : Program}
theorem RunsP.of {c : Code} {s s' : St} {ex : Ex} (h : RunsTo P c s ex s') : RunsP P c s ex (fun t => t = s') :=
  fun m a w Q hs hq => h m a w Q hs fun m' a' w' h1 hg => hq s' m' a' w' rfl h1 hg
theorem RunsP.mono {c : Code} {s : St} {ex : Ex} {Φ Ψ : St → Prop} (h : RunsP P c s ex Φ) (k : ∀ t, Φ t → Ψ t) : RunsP P c s ex Ψ :=
  fun m a w Q hs hq => h m a w Q hs fun s' m' a' w' h1 => hq s' m' a' w' (k s' h1)
theorem RunsP.seq {c d : Code} {s : St} {ex : Ex} {Φ Ψ : St → Prop} (h : RunsP P c s .normal Φ) (k : ∀ t, Φ t → RunsP P d t ex Ψ) : RunsP P (.seq c d) s ex Ψ := by
  intro m a w Q hs hq
  refine wp_seq (h m a w _ hs fun s1 m' a' w' h1 hs' hg => ?_)
  exact k s1 h1 m' a' w' Q hs' fun s2 m2 a2 w2 h2 hs2 hg2 => hq s2 m2 a2 w2 h2 hs2 (hg.trans hg2)
theorem RunsP.block {id : Nat} {c : Code} {s : St} {Φ : St → Prop} (h : RunsP P c s (.exit id) Φ) : RunsP P (.block id c) s .normal Φ := by
  intro m a w Q hs hq
  refine wp_block (h m a w _ hs fun s1 m' a' w' h1 hs' hg => ?_)
  have := hq s1 m' a' w' h1 hs' hg
  simpa [exOf, Exit.inBlock] using this
theorem RunsP.loop {n : Nat} {c : Code} {s : St} {ex : Ex} {Φ : St → Prop} (h : RoundsP P c n s ex Φ) : RunsP P (.loop c) s ex Φ :=
  fun m a w Q hs hq => wp_loop_rounds n (h m a w Q hs hq)
theorem RoundsP.next {n : Nat} {c : Code} {s : St} {ex : Ex} {Φ Ψ : St → Prop} (h : RunsP P c s .normal Φ) (k : ∀ t, Φ t → RoundsP P c n t ex Ψ) : RoundsP P c (n + 1) s ex Ψ := by
  intro m a w Q hs hq
  rw [rounds_succ]
  refine h m a w _ hs fun s1 m' a' w' h1 hs' hg => ?_
  exact k s1 h1 m' a' w' Q hs' fun s2 m2 a2 w2 h2 hs2 hg2 => hq s2 m2 a2 w2 h2 hs2 (hg.trans hg2)
theorem RoundsP.out {n id : Nat} {c : Code} {s : St} {Φ : St → Prop} (h : RunsP P c s (.exit id) Φ) : RoundsP P c (n + 1) s (.exit id) Φ := by
  intro m a w Q hs hq
  rw [rounds_succ]
  exact h m a w _ hs fun s1 m' a' w' h1 hs' hg => hq s1 m' a' w' h1 hs' hg
theorem RunsP.cut {c : Code} {s : St} {ex : Ex} {Φ : St → Prop} {k : Nat} (h : RunsP P c s ex Φ) (hk : s.M.length ≤ k) (hB : ∀ t, Φ t → ∀ b ∈ t.M.take k, idsLts k b.cells = true) : RunsP P c s ex (fun t => ∃ t' v, Φ t' ∧ t = t'.cut k v) := by
  intro m a w Q hs hq
  refine h m a w Q hs fun t m' a' w' h1 hst hg => hq _ (m'.cut k) a' w' ⟨t, _, h1, rfl⟩ (hst.cut (hB t h1)) ?_
  refine ⟨⟨fun n r hr => cut_some (by have := hs.mem.dom n r hr; omega) (hg.ext.n n r hr), hg.ext.c⟩, hg.fr, fun n r hr => hg.new n r (cut_inv hr).2, fun n r hr hl => hg.dd n r hr (live_take hl).1⟩
theorem RunsP.retell {c : Code} {s t : St} {ex : Ex} {Φ : St → Prop} (h : SameSt s t) (k : RunsP P c s ex Φ) : RunsP P c t ex Φ :=
  fun m a w Q hs hq => k m a w Q (h.at hs) fun s' m' a' w' h1 h2 hg => hq s' m' a' w' h1 h2 (by unfold Goes at hg ⊢; rw [← h.live]; exact hg)
theorem RunsP.fin {c : Code} {s : St} {ex : Ex} {Φ Ψ : St → Prop} (k : RunsP P c s ex Φ) (h : ∀ t, Φ t → ∃ u, Ψ u ∧ SameSt u t) : RunsP P c s ex Ψ :=
  fun m a w Q hs hq => k m a w Q hs fun t m' a' w' h1 h2 hg => by
    obtain ⟨u, hu, hs⟩ := h t h1
    exact hq u m' a' w' hu (hs.at h2) (by unfold Goes at hg ⊢; rw [hs.live]; exact hg)
theorem RoundsP.retell {n : Nat} {c : Code} {s t : St} {ex : Ex} {Φ : St → Prop} (h : SameSt s t) (k : RoundsP P c n s ex Φ) : RoundsP P c n t ex Φ :=
  fun m a w Q hs hq => k m a w Q (h.at hs) fun s' m' a' w' h1 h2 hg => hq s' m' a' w' h1 h2 (by unfold Goes at hg ⊢; rw [← h.live]; exact hg)
theorem RunsP.call {g : FuncId} {fn : Func} {c : Code} {args : List SV} {M : List Blk} {d : Dec} {Φ : St → Prop} {x : St → SV} (hg : P.funcs[g]? = some fn) (hb : fn.body = some c)
    (h : RunsP P c ⟨args ++ List.replicate (fn.ntmps - args.length) (.tup []), M, d, []⟩ .ret Φ) (hx : ∀ t, Φ t → resultS P fn t = some (x t)) {m : Nms} {w : World} {vs : List Value} (hvs : dens m args = some vs) (hM : MemAt m w M) :
    Calls P g vs.toArray w fun e w' => ∃ t m' v, Φ t ∧ e = .returned v ∧ den m' (x t) = some v ∧ MemAt m' w' t.M ∧ Goes m M w m' t.M w' := by
  have hl := dens_length hvs
  refine calls_of_wp hg hb ?_
  have htm : dens m (args ++ List.replicate (fn.ntmps - args.length) (.tup [])) = some (vs.toArray ++ Array.replicate (fn.ntmps - vs.toArray.size) undef).toList := by
    have := dens_append hvs (dens_replicate (undef_den m) (fn.ntmps - args.length))
    rw [this]; simp [hl]
  refine h _ _ w _ ⟨htm, rfl, hM⟩ fun t m' a' w' h1 hst hgo => ?_
  obtain ⟨v, hv, hr⟩ := resultS_ok hst (hx t h1)
  exact ⟨hst.df, v, hr, t, m', v, h1, rfl, hv, hst.mem, hgo⟩
end
def slA : SV → Option (Nat × Nat × Nat)
  | .sl n off len _ => some (n, off, len)
  | .ssl n off len _ => some (n, off, len)
  | .osl _ n len => some (n, 0, len)
  | _ => none
theorem slA_ok {x : SV} {n off len : Nat} {m : Nms} {v : Value} (h : slA x = some (n, off, len)) (hx : den m x = some v) : ∃ r cap, m n = some r ∧ v = .slice (some ⟨r, off, none⟩) len cap := by
  unfold slA at h
  split at h <;> first | cases h; done | skip
  · simp only [Option.some.injEq, Prod.mk.injEq] at h; obtain ⟨rfl, rfl, rfl⟩ := h
    simp only [den, Option.map_eq_some_iff] at hx
    obtain ⟨r, hr, rfl⟩ := hx
    exact ⟨r, _, hr, rfl⟩
  · simp only [Option.some.injEq, Prod.mk.injEq] at h; obtain ⟨rfl, rfl, rfl⟩ := h
    simp only [den, Option.map_eq_some_iff] at hx
    obtain ⟨r, hr, rfl⟩ := hx
    exact ⟨r, _, hr, rfl⟩
  · simp only [Option.some.injEq, Prod.mk.injEq] at h; obtain ⟨rfl, rfl, rfl⟩ := h
    simp only [den, Option.bind_eq_some_iff] at hx
    obtain ⟨r, hr, hx⟩ := hx
    obtain ⟨_, rfl⟩ := oslV_some.1 hx
    exact ⟨r, _, hr, rfl⟩
/-- the row holds these -/
def RowAt (w : World) (r off : Nat) (vals : List Value) : Prop := ∃ (cv : List Value) (e : TypeId), w.heap[r]? = some (.cells cv.toArray e (0, 0)) ∧ (cv.drop off).take vals.length = vals
abbrev RdF := List SV → Nat → List SV → Dec → Option (SV × Dec × Obs)
def RdOk (P : Program) (g : FuncId) (F : RdF) : Prop :=
  ∀ cs len l ds x ds' ob, F cs len l ds = some (x, ds', ob) → ObsOk ob → ∃ vc vs v, plains cs = some vc ∧ plains l = some vs ∧ plain x = some v ∧
    ∀ (w : World) (r off cap : Nat), RowAt w r off vc → Calls P g (Value.slice (some ⟨r, off, none⟩) len cap :: vs).toArray w fun e w' => e = .returned v ∧ Below w.heap.size w w'
/-- may a block be written? -/
def Blk.rw (b : Blk) : Bool := match b.k with
  | .dead => false
  | .ro _ => false
  | _ => true
theorem rw_ok {b : Blk} (h : b.rw = true) : b.live = true ∧ b.k.z = (0, 0) := by
  unfold Blk.rw at h
  unfold Blk.live
  cases hk : b.k <;> rw [hk] at h <;> first | exact ⟨rfl, rfl⟩ | cases h
def kRd (size : Nat) (F : RdF) : OF := fun args M ds =>
  match args, M with
  | s :: l, [b] => match slA s with
    | some (0, off, len) => match b.rw with
      | true => (F ((b.cells.drop off).take (len * size)) len l ds).map fun q => (q.1, [b], q.2.1, q.2.2)
      | false => none
    | _ => none
  | _, _ => none
theorem RdOk.of {P : Program} {g : FuncId} {F : RdF} {size : Nat} (h : RdOk P g F) : OfOk P g (kRd size F) := by
  intro args M ds x M' ds' ob hk ho m w vs hvs hM
  unfold kRd at hk
  split at hk
  · rename_i s l b
    split at hk
    · rename_i off len hs
      split at hk
      · rename_i hl
        simp only [Option.map_eq_some_iff, Prod.mk.injEq] at hk
        obtain ⟨⟨y, d, o⟩, hF, rfl, rfl, rfl, rfl⟩ := hk
        obtain ⟨vc, vl, v, h1, h2, h3, h4⟩ := h _ _ _ _ _ _ _ hF ho
        obtain ⟨v0, us, h5, h6, rfl⟩ := dens_cons_some.1 hvs
        obtain ⟨r, cap, hr, rfl⟩ := slA_ok hs h5
        have h7 := dens_plains (m := m) h2
        rw [h6] at h7
        have h8 := Option.some.inj h7
        subst h8
        obtain ⟨r', hr', hat⟩ := hM.blk 0 b rfl
        rw [hr] at hr'
        have h9 := Option.some.inj hr'
        subst h9
        obtain ⟨cv, sp, d1, hh, _⟩ := hat (rw_ok hl).1
        rw [(rw_ok hl).2] at hh
        have h10 := dens_plains (m := m) h1
        rw [dens_take (dens_drop d1 _) _] at h10
        have h11 := Option.some.inj h10
        have hrow : RowAt w r off vc := by
          refine ⟨cv ++ sp, b.elem, hh, ?_⟩
          have hlen : vc.length = min (len * size) (cv.length - off) := by rw [← h11]; simp
          rw [List.drop_append, List.take_append, hlen, List.length_drop]
          rw [show min (len * size) (cv.length - off) - (cv.length - off) = 0 by omega, List.take_zero, List.append_nil]
          rw [← h11, List.take_eq_take_iff, List.length_drop]
          omega
        exact Calls.mono (h4 w r off cap hrow) fun e w' ⟨he, hb⟩ => ⟨m, v, he, CallPost.same hM (den_plain h3) hb⟩
      · cases hk
    · cases hk
  · cases hk
/-- where a row lies in a block -/
def CellsAt (cells : List SV) (off : Nat) (cs : List SV) : Prop := ∀ j x, cs[j]? = some x → cells[off + j]? = some x
theorem plains_app : ∀ {a b : List SV} {vs us : List Value}, plains a = some vs → plains b = some us → plains (a ++ b) = some (vs ++ us)
  | [], b, vs, us, h, k => by simp only [plains, Option.some.injEq] at h; subst h; exact k
  | x :: a, b, vs, us, h, k => by
    simp only [plains, Option.bind_eq_some_iff, Option.map_eq_some_iff] at h
    obtain ⟨v, h1, ws, h2, rfl⟩ := h
    exact plains_cons h1 (plains_app h2 k)
theorem plains_o : ∀ (l : List Value), plains (l.map SV.o) = some l
  | [] => rfl
  | x :: l => plains_cons rfl (plains_o l)
theorem plains_len : ∀ {l : List SV} {vs : List Value}, plains l = some vs → vs.length = l.length := fun h => dens_length (dens_plains (m := Nms.no) h)
/-- one block: names, and its cells -/
theorem rd_cells {w : World} {r off : Nat} {vc : List Value} {cs : List SV} (hc : plains cs = some vc) (hw : RowAt w r off vc) :
    ∃ (m : Nms) (e : TypeId) (cells : List SV), MemAt m w [⟨e, cells, .num⟩] ∧ m 0 = some r ∧ CellsAt cells off cs ∧ idsLts 0 cells = true := by
  obtain ⟨cv, e, hh, ht⟩ := hw
  have hl := plains_len hc
  have hr : r < w.heap.size := (Array.getElem?_eq_some_iff.1 hh).1
  have hcv : cv = cv.take off ++ (vc ++ (cv.drop off).drop vc.length) := by
    conv => lhs; rw [← List.take_append_drop off cv, ← List.take_append_drop vc.length (cv.drop off), ht]
  have hp : plains ((cv.take off).map SV.o ++ (cs ++ ((cv.drop off).drop vc.length).map SV.o)) = some cv := by
    have := plains_app (plains_o (cv.take off)) (plains_app hc (plains_o ((cv.drop off).drop vc.length)))
    rw [← hcv] at this; exact this
  refine ⟨⟨fun n => if n = 0 then some r else none, fun _ => 0⟩, e, _, ⟨⟨fun n q hq => ?_⟩, fun n n' q _ _ h1 h2 => ?_, fun n b hb => ?_, fun n q hq => ?_⟩, rfl, fun j x hj => ?_, plains_ids hp⟩
  · have hq' : (if n = 0 then some r else none) = some q := hq
    split at hq'
    · cases hq'; exact hr
    · cases hq'
  · have h1' : (if n = 0 then some r else none) = some q := h1
    have h2' : (if n' = 0 then some r else none) = some q := h2
    by_cases e1 : n = 0
    · by_cases e2 : n' = 0
      · rw [e1, e2]
      · rw [if_neg e2] at h2'; cases h2'
    · rw [if_neg e1] at h1'; cases h1'
  · have hn : n = 0 := by
      rcases Nat.lt_or_ge n 1 with h' | h'
      · omega
      · rw [List.getElem?_eq_none (by simpa using h')] at hb; cases hb
    subst hn
    simp only [List.getElem?_cons_zero, Option.some.injEq] at hb
    subst hb
    exact ⟨r, rfl, BlkAt.mk_num (plains_ids hp) (dens_plains hp) hh⟩
  · have hq' : (if n = 0 then some r else none) = some q := hq
    split at hq'
    · rename_i h0; subst h0; exact Nat.lt_add_one 0
    · cases hq'
  · have hjl : j < cs.length := by
      rcases Nat.lt_or_ge j cs.length with h' | h'
      · exact h'
      · rw [List.getElem?_eq_none h'] at hj; cases hj
    have hoff : off ≤ cv.length := by
      rcases Nat.le_total off cv.length with h' | h'
      · exact h'
      · have : vc = [] := by rw [← ht, List.drop_eq_nil_of_le h']; simp
        rw [this] at hl; simp at hl; omega
    have h1 : ((cv.take off).map SV.o).length = off := by simp; omega
    rw [List.getElem?_append_right (by omega), h1, show off + j - off = j by omega, List.getElem?_append_left hjl]
    exact hj
/-- what reads a block leaves it as it was -/
theorem Goes.read {m m' : Nms} {e : TypeId} {cells : List SV} {rest : List Blk} {w w' : World} (hM : MemAt m w [⟨e, cells, .num⟩]) (hg : Goes m [⟨e, cells, .num⟩] w m' (⟨e, cells, .num⟩ :: rest) w') (hM' : MemAt m' w' (⟨e, cells, .num⟩ :: rest)) : Below w.heap.size w w' := by
  refine ⟨hg.fr.os, hg.fr.tape, hg.fr.output, hg.fr.size, fun k hk => ?_⟩
  by_cases hx : ∃ n, m n = some k ∧ liveM [⟨e, cells, .num⟩] n
  · obtain ⟨n, hn, _⟩ := hx
    have h0 : n = 0 := by have := hM.dom n k hn; simpa using this
    subst h0
    obtain ⟨r, hr, hat⟩ := hM.blk 0 _ rfl
    obtain ⟨r', hr', hat'⟩ := hM'.blk 0 _ rfl
    rw [hn] at hr; cases hr
    rw [hg.ext.n 0 k hn] at hr'; cases hr'
    obtain ⟨cv, d, h1⟩ := hat.num
    obtain ⟨cv', d', h2⟩ := hat'.num
    rw [dens_ext hg.ext d] at d'; cases d'
    rw [h1, h2]
  · exact hg.fr.block k hk hx
/-- contracts out of pieces, of functions that read one row -/
theorem rd_of_runs {P : Program} {g : FuncId} {fn : Func} {c : Code} (hg : P.funcs[g]? = some fn) (hb : fn.body = some c) {cs l : List SV} {len : Nat} {vc vs : List Value} {x : SV} {v : Value} (hc : plains cs = some vc) (hl : plains l = some vs) (hx : plain x = some v) {d : Dec}
    (h : ∀ (e : TypeId) (cells : List SV) (off cap : Nat), CellsAt cells off cs → idsLts 0 cells = true →
      RunsP P c ⟨(.ssl 0 off len cap :: l) ++ List.replicate (fn.ntmps - (l.length + 1)) (.tup []), [⟨e, cells, .num⟩], d, []⟩ .ret (fun t => resultS P fn t = some x ∧ ∃ rest, t.M = ⟨e, cells, .num⟩ :: rest))
    (w : World) (r off cap : Nat) (hw : RowAt w r off vc) : Calls P g (Value.slice (some ⟨r, off, none⟩) len cap :: vs).toArray w fun e w' => e = .returned v ∧ Below w.heap.size w w' := by
  obtain ⟨m, e, cells, hM, h0, hca, hid⟩ := rd_cells hc hw
  have hd : dens m (.ssl 0 off len cap :: l) = some (Value.slice (some ⟨r, off, none⟩) len cap :: vs) := dens_cons (by simp only [den, h0, Option.map_some]) (dens_plains hl)
  refine Calls.mono (RunsP.call hg hb (args := .ssl 0 off len cap :: l) (x := fun _ => x) (h e cells off cap hca hid) (fun t ht => ht.1) hd hM) fun ex w' ⟨t, m', u, ⟨_, rest, hr⟩, he, hv, hM', hgo⟩ => ?_
  rw [den_plain hx] at hv
  have := Option.some.inj hv
  subst this
  rw [hr] at hM' hgo
  exact ⟨he, Goes.read hM hgo hM'⟩
theorem rd_of_run {P : Program} {E : ExtF} {O : OracleF} (hP : Good P E) (hO : OracleOk P O) (n : Nat) {g : FuncId} {cs l : List SV} {len : Nat} {vc vs : List Value} {x : SV} {v : Value} (hc : plains cs = some vc) (hl : plains l = some vs) (hx : plain x = some v)
    (h : ∀ (e : TypeId) (cells : List SV) (off cap : Nat), CellsAt cells off cs → ∃ rest ds ds' ob, (run P E O n).1 g (.ssl 0 off len cap :: l) [⟨e, cells, .num⟩] ds = some (x, ⟨e, cells, .num⟩ :: rest, ds', ob) ∧ ObsOk ob)
    (w : World) (r off cap : Nat) (hw : RowAt w r off vc) : Calls P g (Value.slice (some ⟨r, off, none⟩) len cap :: vs).toArray w fun e w' => e = .returned v ∧ Below w.heap.size w w' := by
  obtain ⟨m, e, cells, hM, h0, hca, hid⟩ := rd_cells hc hw
  have hd : dens m (.ssl 0 off len cap :: l) = some (Value.slice (some ⟨r, off, none⟩) len cap :: vs) := dens_cons (by simp only [den, h0, Option.map_some]) (dens_plains hl)
  obtain ⟨rest, ds, ds', ob, hr, ho⟩ := h e cells off cap hca
  refine Calls.mono ((run_ok hP hO n).1 g _ _ _ _ _ _ _ hr ho m w _ hd hM) fun ex w' ⟨m', u, he, hp⟩ => ?_
  have hv := hp.val
  rw [den_plain hx] at hv
  have := Option.some.inj hv
  subst this
  exact ⟨he, Goes.read hM hp.go hp.mem⟩
/-- where the reckoner ends -/
def aft (P : Program) (E : ExtF) (O : OracleF) (n : Nat) (c : Code) (s : St) : St := match (run P E O n).2 c s with
  | some (_, s') => s'
  | none => s
def Lands (P : Program) (E : ExtF) (O : OracleF) (n : Nat) (c : Code) (s : St) (ex : Ex) : Prop := (run P E O n).2 c s = some (ex, aft P E O n c s)
theorem Lands.runs {P : Program} {E : ExtF} {O : OracleF} (hP : Good P E) (hO : OracleOk P O) {n : Nat} {c : Code} {s : St} {ex : Ex} (h : Lands P E O n c s ex) (ho : ObsOk (aft P E O n c s).ob) : RunsP P c s ex (fun t => t = aft P E O n c s) := RunsP.of (RunsTo.of hP hO h ho)
theorem Lands.seq {P : Program} {E : ExtF} {O : OracleF} (hP : Good P E) (hO : OracleOk P O) {n : Nat} {c d : Code} {s : St} {ex : Ex} {Ψ : St → Prop} (h : Lands P E O n c s .normal) (ho : ObsOk (aft P E O n c s).ob) (k : RunsP P d (aft P E O n c s) ex Ψ) : RunsP P (.seq c d) s ex Ψ :=
  RunsP.seq (h.runs hP hO ho) fun _ ht => ht ▸ k
theorem Lands.fin {P : Program} {E : ExtF} {O : OracleF} (hP : Good P E) (hO : OracleOk P O) {n : Nat} {c : Code} {s : St} {ex : Ex} {Ψ : St → Prop} (h : Lands P E O n c s ex) (ho : ObsOk (aft P E O n c s).ob) (k : ∃ u, Ψ u ∧ SameSt u (aft P E O n c s)) : RunsP P c s ex Ψ :=
  (h.runs hP hO ho).fin fun _ ht => ht ▸ k
theorem Lands.all {P : Program} {E : ExtF} {O : OracleF} (hP : Good P E) (hO : OracleOk P O) {n : Nat} {c : Code} {s : St} {ex : Ex} {Ψ : St → Prop} (h : Lands P E O n c s ex) (ho : ObsOk (aft P E O n c s).ob) (k : Ψ (aft P E O n c s)) : RunsP P c s ex Ψ :=
  (h.runs hP hO ho).mono fun _ ht => ht ▸ k
/-- from a state that tells the same, in other words for what is decided -/
theorem RunsP.re {P : Program} {c : Code} {T : List SV} {M : List Blk} {d e : Dec} {o p : Obs} {ex : Ex} {Φ : St → Prop} (k : RunsP P c ⟨T, M, d, o⟩ ex Φ) : RunsP P c ⟨T, M, e, p⟩ ex Φ := k.retell (SameSt.same T M d e o p)
theorem same_eq {s t : St} (hT : s.T = t.T) (hM : s.M = t.M) : SameSt s t := by
  cases s; cases t
  simp only at hT hM
  subst hT; subst hM
  exact SameSt.same _ _ _ _ _ _
theorem same_T {s t : St} (hT : ∀ m, dens m s.T = dens m t.T) (hM : s.M = t.M) : SameSt s t := by
  cases s; cases t
  simp only at hT hM
  subst hM
  exact ⟨hT, rfl, fun _ b h => ⟨b, h, rfl, rfl, id, fun _ => rfl⟩⟩
theorem loop_rows {P : Program} {body : Code} {id : Nat} {Φ : St → Prop} {α : Type} (S : Nat → α → St) (n : Nat) (hr : ∀ i x, i < n → RunsP P body (S i x) .normal (fun t => ∃ x', t = S (i + 1) x')) (he : ∀ x, RunsP P body (S n x) (.exit id) Φ) (x : α) : RunsP P (.block id (.loop body)) (S 0 x) .normal Φ := by
  refine RunsP.block (RunsP.loop (n := n + 1) ?_)
  have key : ∀ j i x, i + j = n → RoundsP P body (j + 1) (S i x) (.exit id) Φ := by
    intro j
    induction j with
    | zero =>
      intro i x h
      rw [Nat.add_zero] at h
      subst h
      exact RoundsP.out (he x)
    | succ j ih =>
      intro i x h
      refine RoundsP.next (hr i x (by omega)) fun t ⟨x', ht⟩ => ?_
      subst ht
      exact ih (i + 1) x' (by omega)
  exact key n 0 x (by omega)
/-- of a round: the names that it has made are given up -/
theorem RunsP.round {P : Program} {c : Code} {s s' : St} {Φ : St → Prop} {k : Nat} {ex : Ex} (h : RunsP P c s ex (fun t => t = s')) (hk : s.M.length ≤ k) (hB : ∀ b ∈ s'.M.take k, idsLts k b.cells = true) (hΦ : ∀ v, ∃ u, Φ u ∧ SameSt u (s'.cut k v)) : RunsP P c s ex Φ :=
  (h.cut hk (fun t ht => by rw [ht]; exact hB)).fin fun t ⟨t', v, h1, h2⟩ => by
    subst h1; subst h2
    exact hΦ v
theorem wrap_s {i : Nat} (h : i < 4611686018427387904) : IntKind.i64.wrap ((i : Int) + 1) = ((i + 1 : Nat) : Int) := by
  rw [IntKind.wrap_i64]; omega
end Rx
namespace Rx
set_option linter.all false
open Go Go.RowKit

section
variable {P : Program}
theorem RoundsP.ret {n : Nat} {c : Code} {s : St} {Φ : St → Prop} (h : RunsP P c s .ret Φ) : RoundsP P c (n + 1) s .ret Φ := by
  intro m a w Q hs hq
  rw [rounds_succ]
  exact h m a w _ hs fun s1 m' a' w' h1 hs' hg => hq s1 m' a' w' h1 hs' hg
end
/-- a block that stands exactly -/
def Blk.exact (b : Blk) : Bool := match b.k with
  | .ex => true
  | .num => true
  | .ro _ => true
  | _ => false
theorem BlkAt.cells {m : Nms} {w : World} {r : Nat} {b : Blk} (hx : b.exact = true) (h : BlkAt m w r b) : ∃ cv, dens m b.cells = some cv ∧ w.heap[r]? = some (.cells cv.toArray b.elem b.k.z) := by
  obtain ⟨e, cs, k⟩ := b
  cases k <;> first | exact h.ex | exact h.num | (cases hx; done) | skip
  obtain ⟨cv, sp, d, hh, k⟩ := h rfl
  have k' : sp = [] := k.1
  subst k'
  exact ⟨cv, d, by simpa using hh⟩
theorem Goes.reads {m m' : Nms} {M rest : List Blk} {w w' : World} (hx : ∀ b ∈ M, b.exact = true) (hM : MemAt m w M) (hg : Goes m M w m' (M ++ rest) w') (hM' : MemAt m' w' (M ++ rest)) : Below w.heap.size w w' := by
  refine ⟨hg.fr.os, hg.fr.tape, hg.fr.output, hg.fr.size, fun k hk => ?_⟩
  by_cases hn : ∃ n, m n = some k ∧ liveM M n
  · obtain ⟨n, hn, b, hb, _⟩ := hn
    have hb' : (M ++ rest)[n]? = some b := by
      rw [List.getElem?_append_left (List.getElem?_eq_some_iff.1 hb).1]; exact hb
    obtain ⟨r, hr, hat⟩ := hM.blk n b hb
    obtain ⟨r', hr', hat'⟩ := hM'.blk n b hb'
    rw [hn] at hr; cases hr
    rw [hg.ext.n n k hn] at hr'; cases hr'
    have hq := hx b (List.mem_of_getElem? hb)
    obtain ⟨cv, d, h1⟩ := hat.cells hq
    obtain ⟨cv', d', h2⟩ := hat'.cells hq
    rw [dens_ext hg.ext d] at d'; cases d'
    rw [h1, h2]
  · exact hg.fr.block k hk hn
theorem row_cells {cv vc : List Value} {off : Nat} {cs : List SV} (hc : plains cs = some vc) (ht : (cv.drop off).take vc.length = vc) : ∃ cells, plains cells = some cv ∧ CellsAt cells off cs := by
  have hl := plains_len hc
  have hcv : cv = cv.take off ++ (vc ++ (cv.drop off).drop vc.length) := by
    conv => lhs; rw [← List.take_append_drop off cv, ← List.take_append_drop vc.length (cv.drop off), ht]
  have hp : plains ((cv.take off).map SV.o ++ (cs ++ ((cv.drop off).drop vc.length).map SV.o)) = some cv := by
    have := plains_app (plains_o (cv.take off)) (plains_app hc (plains_o ((cv.drop off).drop vc.length)))
    rw [← hcv] at this; exact this
  refine ⟨_, hp, fun j x hj => ?_⟩
  have hjl : j < cs.length := by
    rcases Nat.lt_or_ge j cs.length with h' | h'
    · exact h'
    · rw [List.getElem?_eq_none h'] at hj; cases hj
  have hoff : off ≤ cv.length := by
    rcases Nat.le_total off cv.length with h' | h'
    · exact h'
    · have : vc = [] := by rw [← ht, List.drop_eq_nil_of_le h']; simp
      rw [this] at hl; simp at hl; omega
  have h1 : ((cv.take off).map SV.o).length = off := by simp; omega
  rw [List.getElem?_append_right (by omega), h1, show off + j - off = j by omega, List.getElem?_append_left hjl]
  exact hj
/-- the row of the first block in numbers -/
theorem MemAt.row {m : Nms} {w : World} {b : Blk} {rest : List Blk} {off n : Nat} {vc : List Value} (hM : MemAt m w (b :: rest)) (hw : b.rw = true) (hc : plains ((b.cells.drop off).take n) = some vc) :
    ∃ cells, MemAt m w (⟨b.elem, cells, .num⟩ :: rest) ∧ CellsAt cells off ((b.cells.drop off).take n) ∧ idsLts 0 cells = true := by
  obtain ⟨r, hr, hat⟩ := hM.blk 0 b rfl
  have hl := (rw_ok hw).1
  obtain ⟨cv, sp, d1, hh, _⟩ := hat hl
  rw [(rw_ok hw).2] at hh
  have h10 := dens_plains (m := m) hc
  rw [dens_take (dens_drop d1 _) _] at h10
  have h11 := Option.some.inj h10
  have hrow : ((cv ++ sp).drop off).take vc.length = vc := by
    have hlen : vc.length = min n (cv.length - off) := by rw [← h11]; simp
    rw [List.drop_append, List.take_append, hlen, List.length_drop]
    rw [show min n (cv.length - off) - (cv.length - off) = 0 by omega, List.take_zero, List.append_nil]
    rw [← h11, List.take_eq_take_iff, List.length_drop]
    omega
  obtain ⟨cells, hp, hca⟩ := row_cells hc hrow
  refine ⟨cells, ⟨hM.ok, fun n n' q l1 l2 => hM.inj n n' q ?_ ?_, fun j c hj => ?_, fun j q hq => ?_⟩, hca, plains_ids hp⟩
  · obtain ⟨c, hc1, hc2⟩ := l1
    cases n with
    | zero => exact ⟨b, rfl, hl⟩
    | succ n => exact ⟨c, hc1, hc2⟩
  · obtain ⟨c, hc1, hc2⟩ := l2
    cases n' with
    | zero => exact ⟨b, rfl, hl⟩
    | succ n => exact ⟨c, hc1, hc2⟩
  · cases j with
    | zero =>
      simp only [List.getElem?_cons_zero, Option.some.injEq] at hj
      subst hj
      exact ⟨r, hr, BlkAt.mk_num (plains_ids hp) (dens_plains hp) hh⟩
    | succ j => exact hM.blk (j + 1) c hj
  · exact hM.dom j q hq
abbrev RdsF := List SV → Nat → List SV → List Blk → Dec → Option (SV × Dec × Obs)
/-- a function that reads a row and other blocks -/
def RdsOk (P : Program) (g : FuncId) (F : RdsF) : Prop :=
  ∀ cs len l rest ds x ds' ob, F cs len l rest ds = some (x, ds', ob) → ObsOk ob → (∃ vc, plains cs = some vc) ∧ ∃ v, plain x = some v ∧
    ∀ (m : Nms) (w : World) (e : TypeId) (cells : List SV) (off cap : Nat) (vs : List Value), MemAt m w (⟨e, cells, .num⟩ :: rest) → CellsAt cells off cs → idsLts 0 cells = true → dens m (.ssl 0 off len cap :: l) = some vs →
      Calls P g vs.toArray w fun e w' => e = .returned v ∧ Below w.heap.size w w'
def kRds (size : Nat) (F : RdsF) : OF := fun args M ds =>
  match args, M with
  | s :: l, b :: rest => match slA s with
    | some (0, off, len) => match b.rw with
      | true => (F ((b.cells.drop off).take (len * size)) len l rest ds).map fun q => (q.1, b :: rest, q.2.1, q.2.2)
      | false => none
    | _ => none
  | _, _ => none
theorem RdsOk.of {P : Program} {g : FuncId} {F : RdsF} {size : Nat} (h : RdsOk P g F) : OfOk P g (kRds size F) := by
  intro args M ds x M' ds' ob hk ho m w vs hvs hM
  unfold kRds at hk
  split at hk
  · rename_i s l b rest
    split at hk
    · rename_i off len hs
      split at hk
      · rename_i hl
        simp only [Option.map_eq_some_iff, Prod.mk.injEq] at hk
        obtain ⟨⟨y, d, o⟩, hF, rfl, rfl, rfl, rfl⟩ := hk
        obtain ⟨⟨vc, hc⟩, v, hv, hcall⟩ := h _ _ _ _ _ _ _ _ hF ho
        obtain ⟨v0, us, h5, h6, rfl⟩ := dens_cons_some.1 hvs
        obtain ⟨r, cap, hr, rfl⟩ := slA_ok hs h5
        obtain ⟨cells, hM', hca, hid⟩ := hM.row hl hc
        exact Calls.mono (hcall m w b.elem cells off cap _ hM' hca hid (dens_cons (by simp only [den, hr, Option.map_some]) h6)) fun e w' ⟨he, hb⟩ => ⟨m, v, he, CallPost.same hM (den_plain hv) hb⟩
      · cases hk
    · cases hk
  · cases hk
end Rx
namespace Rx
set_option linter.all false
open Go Go.RowKit

def Nms.sel (m : Nms) (ids : List Nat) : Nms := ⟨fun j => (ids[j]?).bind fun n => m n, m.c⟩
theorem sel_some {m : Nms} {ids : List Nat} {j n r : Nat} (h : ids[j]? = some n) (hr : m n = some r) : m.sel ids j = some r := by
  show (ids[j]?).bind _ = _
  rw [h]; exact hr
theorem sel_inv {m : Nms} {ids : List Nat} {j r : Nat} (h : m.sel ids j = some r) : ∃ n, ids[j]? = some n ∧ m n = some r := Option.bind_eq_some_iff.1 h
/-- what speaks of names that are given up stands as it is -/
def hos (ρ : Nat → Option Nat) (v : Nat → Value) : Nat → List SV → List SV
  | _, [] => []
  | j, x :: l => (match ren ρ x with
    | some y => y
    | none => .o (v j)) :: hos ρ v (j + 1) l
theorem hos_ok {m m' : Nms} {ρ : Nat → Option Nat} {v : Nat → Value} (hρ : ∀ n k, ρ n = some k → ∀ r, m n = some r → m' k = some r ∧ m'.c r = m.c r) : ∀ {T : List SV} {vs : List Value} {j : Nat}, dens m T = some vs → (∀ i u, vs[i]? = some u → v (j + i) = u) → dens m' (hos ρ v j T) = some vs
  | [], vs, j, h, _ => by simp [dens] at h; subst h; simp [hos, dens]
  | x :: l, vs, j, h, hv => by
    obtain ⟨u, us, a, b, rfl⟩ := dens_cons_some.1 h
    have ih := hos_ok hρ (v := v) (j := j + 1) b (fun i u hu => by rw [show j + 1 + i = j + (i + 1) by omega]; exact hv (i + 1) u (by simpa using hu))
    unfold hos
    refine dens_cons ?_ ih
    split
    · rename_i y hy; exact ren_ok hρ hy a
    · have := hv 0 u (by simp)
      rw [Nat.add_zero] at this
      simp only [den, this]
def selM (M : List Blk) (ids : List Nat) : Option (List Blk) := ids.mapM fun n => (M[n]?).bind fun (b : Blk) => (b.ren (posOf ids)).map fun cs => (⟨b.elem, cs, b.k⟩ : Blk)
def St.sel (s : St) (ids : List Nat) (M' : List Blk) (v : Nat → Value) : St := ⟨hos (posOf ids) v 0 s.T, M', s.ds, s.ob⟩
theorem selM_get {M M' : List Blk} {ids : List Nat} (h : selM M ids = some M') : M'.length = ids.length ∧ ∀ (j : Nat) (b' : Blk), M'[j]? = some b' → ∃ (n : Nat) (b : Blk) (cs : List SV), ids[j]? = some n ∧ M[n]? = some b ∧ b.ren (posOf ids) = some cs ∧ b' = ⟨b.elem, cs, b.k⟩ := by
  obtain ⟨h1, h2⟩ := mapM_get h
  refine ⟨h1, fun j b' hb => ?_⟩
  have hj : j < ids.length := by have := (List.getElem?_eq_some_iff.1 hb).1; omega
  obtain ⟨b2, h3, h4⟩ := h2 j ids[j] (List.getElem?_eq_getElem hj)
  rw [hb] at h4
  simp only [Option.some.injEq] at h4
  subst h4
  simp only [Option.bind_eq_some_iff, Option.map_eq_some_iff] at h3
  obtain ⟨b, h5, cs, h6, h7⟩ := h3
  exact ⟨_, b, cs, List.getElem?_eq_getElem hj, h5, h6, h7.symm⟩
theorem live_sel {M M' : List Blk} {ids : List Nat} {j : Nat} (h : selM M ids = some M') (hl : liveM M' j) : ∃ n, ids[j]? = some n ∧ liveM M n := by
  obtain ⟨b', h1, h2⟩ := hl
  obtain ⟨n, b, cs, h3, h4, h5, rfl⟩ := (selM_get h).2 j b' h1
  exact ⟨n, h3, b, h4, h2⟩
theorem StAt.sel {m : Nms} {s : St} {a : Act} {w : World} {ids : List Nat} {M' : List Blk} (h : StAt m s a w) (hn : nodupB ids = true) (hM : selM s.M ids = some M') : StAt (m.sel ids) (s.sel ids M' (fun j => a.tmps.getD j undef)) a w := by
  have hpos : ∀ n k, posOf ids n = some k → ∀ r, m n = some r → m.sel ids k = some r ∧ (m.sel ids).c r = m.c r := fun n k hk r hr => ⟨sel_some (posOf_ok hk) hr, rfl⟩
  refine ⟨hos_ok hpos h.tm (fun i u hu => ?_), h.df, ⟨⟨fun j r hr => ?_⟩, fun j j' r l1 l2 h1 h2 => ?_, fun j b' hb => ?_, fun j r hr => ?_⟩⟩
  · rw [Nat.zero_add]
    have hu' : a.tmps[i]? = some u := by simpa using hu
    simp [Array.getD_eq_getD_getElem?, hu']
  · obtain ⟨n, _, hr'⟩ := sel_inv hr
    exact h.mem.ok.lt n r hr'
  · obtain ⟨n, a1, a2⟩ := sel_inv h1
    obtain ⟨n', b1, b2⟩ := sel_inv h2
    obtain ⟨n2, c1, c2⟩ := live_sel hM l1
    obtain ⟨n3, d1, d2⟩ := live_sel hM l2
    rw [a1] at c1; rw [b1] at d1
    cases c1; cases d1
    have e := h.mem.inj _ _ r c2 d2 a2 b2
    subst e
    exact nodupB_ok hn a1 b1
  · obtain ⟨n, b, cs, h1, h2, h3, rfl⟩ := (selM_get hM).2 j b' hb
    obtain ⟨r, hr, hat⟩ := h.mem.blk n b h2
    refine ⟨r, sel_some h1 hr, fun hl => ?_⟩
    obtain ⟨cv, sp, d, hh, k⟩ := hat hl
    obtain ⟨d', k'⟩ := Blk.ren_ok hpos h3 d k rfl
    exact ⟨cv, sp, d', hh, k'⟩
  · obtain ⟨n, h1, _⟩ := sel_inv hr
    show j < M'.length
    rw [(selM_get hM).1]
    exact (List.getElem?_eq_some_iff.1 h1).1
/-- where a function began -/
structure Bs where
  m : Nms
  M : List Blk
  w : World
  mem : MemAt m w M
theorem Goes.sel {B : Bs} {m : Nms} {M M' : List Blk} {w : World} {ids : List Nat} (hg : Goes B.m B.M B.w m M w) (hn : nodupB ids = true) (hM : selM M ids = some M') (hk : ∀ n, n < B.M.length → ids[n]? = some n) : Goes B.m B.M B.w (m.sel ids) M' w := by
  refine ⟨⟨fun n r hr => sel_some (hk n (B.mem.dom n r hr)) (hg.ext.n n r hr), hg.ext.c⟩, hg.fr, fun j r hr => ?_, fun n r hr hl => ?_⟩
  · obtain ⟨n, h1, h2⟩ := sel_inv hr
    rcases hg.new n r h2 with h3 | h3
    · have := nodupB_ok hn h1 (hk n (B.mem.dom n r h3))
      subst this
      exact .inl h3
    · exact .inr h3
  · obtain ⟨n', h1, h2⟩ := live_sel hM hl
    rw [hk n (B.mem.dom n r hr)] at h1
    cases h1
    exact hg.dd n r hr h2
def RunsB (P : Program) (B : Bs) (c : Code) (s : St) (ex : Ex) (Φ : St → Prop) : Prop :=
  ∀ m a w (Q : Exit → Act → World → Prop), StAt m s a w → Goes B.m B.M B.w m s.M w → (∀ s' m' a' w', Φ s' → StAt m' s' a' w' → Goes B.m B.M B.w m' s'.M w' → Q (exOf ex) a' w') → c.wp P Q a w
def RoundsB (P : Program) (B : Bs) (body : Code) (n : Nat) (s : St) (ex : Ex) (Φ : St → Prop) : Prop :=
  ∀ m a w (Q : Exit → Act → World → Prop), StAt m s a w → Goes B.m B.M B.w m s.M w → (∀ s' m' a' w', Φ s' → StAt m' s' a' w' → Goes B.m B.M B.w m' s'.M w' → Q (exOf ex) a' w') → Code.rounds P body Q n a w
section
variable {P : Program} {B : Bs}
theorem RunsP.bs {c : Code} {s : St} {ex : Ex} {Φ : St → Prop} (h : RunsP P c s ex Φ) : RunsB P B c s ex Φ :=
  fun m a w Q hs hg hq => h m a w Q hs fun s' m' a' w' h1 h2 hg' => hq s' m' a' w' h1 h2 (hg.trans hg')
theorem RunsB.mono {c : Code} {s : St} {ex : Ex} {Φ Ψ : St → Prop} (h : RunsB P B c s ex Φ) (k : ∀ t, Φ t → Ψ t) : RunsB P B c s ex Ψ :=
  fun m a w Q hs hg hq => h m a w Q hs hg fun s' m' a' w' h1 => hq s' m' a' w' (k s' h1)
theorem RunsB.seq {c d : Code} {s : St} {ex : Ex} {Φ Ψ : St → Prop} (h : RunsB P B c s .normal Φ) (k : ∀ t, Φ t → RunsB P B d t ex Ψ) : RunsB P B (.seq c d) s ex Ψ := by
  intro m a w Q hs hg hq
  refine wp_seq (h m a w _ hs hg fun s1 m' a' w' h1 hs' hg' => ?_)
  exact k s1 h1 m' a' w' Q hs' hg' hq
theorem RunsB.block {id : Nat} {c : Code} {s : St} {Φ : St → Prop} (h : RunsB P B c s (.exit id) Φ) : RunsB P B (.block id c) s .normal Φ := by
  intro m a w Q hs hg hq
  refine wp_block (h m a w _ hs hg fun s1 m' a' w' h1 hs' hg' => ?_)
  have := hq s1 m' a' w' h1 hs' hg'
  simpa [exOf, Exit.inBlock] using this
theorem RunsB.loop {n : Nat} {c : Code} {s : St} {ex : Ex} {Φ : St → Prop} (h : RoundsB P B c n s ex Φ) : RunsB P B (.loop c) s ex Φ :=
  fun m a w Q hs hg hq => wp_loop_rounds n (h m a w Q hs hg hq)
theorem RoundsB.next {n : Nat} {c : Code} {s : St} {ex : Ex} {Φ Ψ : St → Prop} (h : RunsB P B c s .normal Φ) (k : ∀ t, Φ t → RoundsB P B c n t ex Ψ) : RoundsB P B c (n + 1) s ex Ψ := by
  intro m a w Q hs hg hq
  rw [rounds_succ]
  exact h m a w _ hs hg fun s1 m' a' w' h1 hs' hg' => k s1 h1 m' a' w' Q hs' hg' hq
theorem RoundsB.out {n id : Nat} {c : Code} {s : St} {Φ : St → Prop} (h : RunsB P B c s (.exit id) Φ) : RoundsB P B c (n + 1) s (.exit id) Φ := by
  intro m a w Q hs hg hq
  rw [rounds_succ]
  exact h m a w _ hs hg fun s1 m' a' w' h1 hs' hg' => hq s1 m' a' w' h1 hs' hg'
theorem RunsB.retell {c : Code} {s t : St} {ex : Ex} {Φ : St → Prop} (h : SameSt s t) (k : RunsB P B c s ex Φ) : RunsB P B c t ex Φ :=
  fun m a w Q hs hg hq => k m a w Q (h.at hs) (by unfold Goes at hg ⊢; rw [h.live]; exact hg) hq
theorem RunsB.fin {c : Code} {s : St} {ex : Ex} {Φ Ψ : St → Prop} (k : RunsB P B c s ex Φ) (h : ∀ t, Φ t → ∃ u, Ψ u ∧ SameSt u t) : RunsB P B c s ex Ψ :=
  fun m a w Q hs hg hq => k m a w Q hs hg fun t m' a' w' h1 h2 hg' => by
    obtain ⟨u, hu, hs⟩ := h t h1
    exact hq u m' a' w' hu (hs.at h2) (by unfold Goes at hg' ⊢; rw [hs.live]; exact hg')
theorem RunsB.re {c : Code} {T : List SV} {M : List Blk} {d e : Dec} {o p : Obs} {ex : Ex} {Φ : St → Prop} (k : RunsB P B c ⟨T, M, d, o⟩ ex Φ) : RunsB P B c ⟨T, M, e, p⟩ ex Φ := k.retell (SameSt.same T M d e o p)
/-- names in another order, some given up -/
theorem RunsB.sel {c : Code} {s t : St} {ex : Ex} {Φ : St → Prop} {ids : List Nat} {M' : List Blk} (h : RunsB P B c s ex (fun u => u = t)) (hn : nodupB ids = true) (hM : selM t.M ids = some M') (hk : ∀ n, n < B.M.length → ids[n]? = some n)
    (hΦ : ∀ v, ∃ u, Φ u ∧ SameSt u (t.sel ids M' v)) : RunsB P B c s ex Φ := by
  refine RunsB.fin (Φ := fun u => ∃ v, u = t.sel ids M' v) (fun m a w Q hs hg hq => h m a w Q hs hg fun t' m' a' w' h1 hst hg' => ?_) fun u ⟨v, hu⟩ => ?_
  · subst h1
    exact hq _ (m'.sel ids) a' w' ⟨_, rfl⟩ (hst.sel hn hM) (hg'.sel hn hM hk)
  · subst hu; exact hΦ v
theorem RunsB.call {g : FuncId} {fn : Func} {c : Code} {args : List SV} {M : List Blk} {d : Dec} {Φ : St → Prop} {x : St → SV} (hg : P.funcs[g]? = some fn) (hb : fn.body = some c) {m : Nms} {w : World} {vs : List Value} (hvs : dens m args = some vs) (hM : MemAt m w M)
    (h : RunsB P ⟨m, M, w, hM⟩ c ⟨args ++ List.replicate (fn.ntmps - args.length) (.tup []), M, d, []⟩ .ret Φ) (hx : ∀ t, Φ t → resultS P fn t = some (x t)) :
    Calls P g vs.toArray w fun e w' => ∃ t m' v, Φ t ∧ e = .returned v ∧ den m' (x t) = some v ∧ MemAt m' w' t.M ∧ Goes m M w m' t.M w' := by
  have hl := dens_length hvs
  refine calls_of_wp hg hb ?_
  have htm : dens m (args ++ List.replicate (fn.ntmps - args.length) (.tup [])) = some (vs.toArray ++ Array.replicate (fn.ntmps - vs.toArray.size) undef).toList := by
    have := dens_append hvs (dens_replicate (undef_den m) (fn.ntmps - args.length))
    rw [this]; simp [hl]
  refine h _ _ w _ ⟨htm, rfl, hM⟩ (Goes.refl m M w) fun t m' a' w' h1 hst hgo => ?_
  obtain ⟨v, hv, hr⟩ := resultS_ok hst (hx t h1)
  exact ⟨hst.df, v, hr, t, m', v, h1, rfl, hv, hst.mem, hgo⟩
end
end Rx
namespace Rx
set_option linter.all false
open Go Go.RowKit
section
variable {P : Program} {B : Bs}
theorem RoundsB.ret {n : Nat} {c : Code} {s : St} {Φ : St → Prop} (h : RunsB P B c s .ret Φ) : RoundsB P B c (n + 1) s .ret Φ := by
  intro m a w Q hs hg hq
  rw [rounds_succ]
  exact h m a w _ hs hg fun s1 m' a' w' h1 hs' hg' => hq s1 m' a' w' h1 hs' hg'
/-- a loop with a measure, which leaves -/
theorem loop_outB {body : Code} {id : Nat} {Φ : St → Prop} {α : Type} (S : α → St) (μ : α → Nat) (I : α → Prop)
    (h : ∀ x, I x → RunsB P B body (S x) (.exit id) Φ ∨ RunsB P B body (S x) .normal (fun t => ∃ x', I x' ∧ μ x' < μ x ∧ t = S x')) (x : α) (h0 : I x) : RunsB P B (.block id (.loop body)) (S x) .normal Φ := by
  refine RunsB.block (RunsB.loop (n := μ x + 1) ?_)
  have key : ∀ n x, μ x ≤ n → I x → RoundsB P B body (n + 1) (S x) (.exit id) Φ := by
    intro n
    induction n with
    | zero =>
      intro x h1 hi
      rcases h x hi with g | g
      · exact RoundsB.out g
      · exact RoundsB.next g fun t ⟨x', _, h2, _⟩ => absurd h2 (by omega)
    | succ n ih =>
      intro x h1 hi
      rcases h x hi with g | g
      · exact RoundsB.out g
      · exact RoundsB.next g fun t ⟨x', hx, h2, ht⟩ => by subst ht; exact ih x' (by omega) hx
  exact key (μ x) x (Nat.le_refl _) h0
end
end Rx
namespace Bu
set_option linter.all false
open Rx Go

/-- a node -/
structure Nd where
  k : Int
  f : Nat → F
  a : Int
  b : Int
def ndM (a0 a1 a2 a3 a4 a5 a6 a7 a8 a9 a10 a11 a12 a13 a14 a15 : F) (i : Nat) : F := [a0, a1, a2, a3, a4, a5, a6, a7, a8, a9, a10, a11, a12, a13, a14, a15].getD i F.zero
def ndI (k : Int) (f : Nat → F) (a b : Int) : SV := .agg [.i .u8 k, .fl (f 0), .fl (f 1), .fl (f 2), .fl (f 3), .fl (f 4), .fl (f 5), .fl (f 6), .fl (f 7), .fl (f 8), .fl (f 9), .fl (f 10), .fl (f 11), .fl (f 12), .fl (f 13), .fl (f 14), .fl (f 15), .si .i64 a, .si .i64 b]
/-- a node, out of its cells -/
def ndOf : SV → Option Nd
  | .agg [k, .fl a0, .fl a1, .fl a2, .fl a3, .fl a4, .fl a5, .fl a6, .fl a7, .fl a8, .fl a9, .fl a10, .fl a11, .fl a12, .fl a13, .fl a14, .fl a15, a, b] => match intS k, intS a, intS b with
    | some (.u8, k), some (.i64, a), some (.i64, b) => some ⟨k, ndM a0 a1 a2 a3 a4 a5 a6 a7 a8 a9 a10 a11 a12 a13 a14 a15, a, b⟩
    | _, _, _ => none
  | _ => none
def ndV (n : Nd) : Value := .agg #[.int .u8 n.k, .float .f64 (n.f 0).b, .float .f64 (n.f 1).b, .float .f64 (n.f 2).b, .float .f64 (n.f 3).b, .float .f64 (n.f 4).b, .float .f64 (n.f 5).b, .float .f64 (n.f 6).b, .float .f64 (n.f 7).b, .float .f64 (n.f 8).b, .float .f64 (n.f 9).b, .float .f64 (n.f 10).b, .float .f64 (n.f 11).b, .float .f64 (n.f 12).b, .float .f64 (n.f 13).b, .float .f64 (n.f 14).b, .float .f64 (n.f 15).b, .int .i64 n.a, .int .i64 n.b]
theorem ndOf_plain {x : SV} {n : Nd} (h : ndOf x = some n) : plain x = some (ndV n) := by
  unfold ndOf at h
  split at h
  · rename_i k _ _ _ _ _ _ _ _ _ _ _ _ _ _ _ _ a b
    split at h
    · rename_i k' a' b' e1 e2 e3
      simp only [Option.some.injEq] at h; subst h
      refine plain_agg ?_
      refine plains_cons (intS_plain e1) ?_
      iterate 16 refine plains_cons rfl ?_
      exact plains_cons (intS_plain e2) (plains_cons (intS_plain e3) plains_nil)
    · cases h
  · cases h
/-- within two numbers -/
def rnB (l h x : F) : Bool := decide (l.k ≤ x.k) && decide (x.k ≤ h.k)
def zsB (f : Nat → F) (js : List Nat) : Bool := js.all fun j => decide ((f j).k = F.zero.k)
def rsB (l h : F) (f : Nat → F) (js : List Nat) : Bool := js.all fun j => rnB l h (f j)
def minA_ : F := toF 4584664420663164928
def minIo_ : F := toF 4607463893776728064
def four_ : F := toF 4616189618054758400
def minMt_ : F := toF 4589168020290535424
def maxMt_ : F := toF 4625196817309499392
def one_ : F := toF 4607182418800017408
/-- may a node be, at a place? -/
def okNd (n : Nd) (p : Int) : Bool :=
  bif decide (n.k = 1) then rsB (toF 0) one_ n.f [0, 1, 2] && (zsB n.f [3, 4, 5, 6, 7, 8, 9, 10, 11, 12, 13, 14, 15] && (decide (n.a = 0) && decide (n.b = 0)))
  else bif decide (n.k = 2) then rsB (toF 0) one_ n.f [12, 0, 1, 2] && (zsB n.f [3, 4, 5, 6, 7, 8, 9, 10, 11, 13, 14, 15] && (decide (n.a = 0) && decide (n.b = 0)))
  else bif decide (n.k = 3) then rnB minA_ one_ (n.f 13) && (rnB minIo_ four_ (n.f 14) && (zsB n.f [0, 1, 2, 3, 4, 5, 6, 7, 8, 9, 10, 11, 12, 15] && (decide (n.a = 0) && decide (n.b = 0))))
  else bif decide (n.k = 4) then rnB minA_ one_ (n.f 13) && (rsB minMt_ maxMt_ n.f [6, 7, 8, 9, 10, 11] && (zsB n.f [0, 1, 2, 3, 4, 5, 12, 14, 15] && (decide (n.a = 0) && decide (n.b = 0))))
  else bif decide (n.k = 5) then rnB (toF 0) one_ (n.f 15) && (zsB n.f [0, 1, 2, 3, 4, 5, 6, 7, 8, 9, 10, 11, 12, 13, 14] && (decide (0 ≤ n.a) && (decide (n.a < p) && (decide (0 ≤ n.b) && decide (n.b < p)))))
  else decide (n.k = 6) && (rnB minIo_ four_ (n.f 14) && (rsB (toF 0) one_ n.f [3, 4, 5] && (zsB n.f [0, 1, 2, 6, 7, 8, 9, 10, 11, 12, 13, 15] && (decide (0 ≤ n.a) && (decide (n.a < p) && decide (n.b = 0))))))
def kNd (v : Nd → Int → Bool) : List SV → Dec → Option (SV × Dec × Obs)
  | [x, y], ds => match ndOf x, intS y with
    | some n, some (.i64, p) => some (.b true, ds, [(v n p, true)])
    | _, _ => none
  | _, _ => none
def orW (x y : Int) : Int := IntKind.u64.wrap ((BitVec.ofInt IntKind.u64.bits x ||| BitVec.ofInt IntKind.u64.bits y).toNat : Int)
def bitsR (g : Nat → F) (i : Nat) : Int := orW (orW (orW ((g i).b : Int) ((g (3 + i)).b : Int)) ((g (6 + i)).b : Int)) ((g (9 + i)).b : Int)
def bitsE (g : Nat → F) : Int := orW (orW (orW (orW (orW (orW ((g 12).b : Int) ((g 13).b : Int)) ((g 14).b : Int)) ((g 15).b : Int)) (bitsR g 0)) (bitsR g 1)) (bitsR g 2)
def bitO (g : Nat → F) : Obs := [(decide (bitsE g = 0), true)]
theorem orW_0 : orW 0 0 = 0 := by decide +kernel
theorem bitsE_0 {g : Nat → F} (h : ∀ j, j < 16 → (g j).b = 0) : bitsE g = 0 := by
  unfold bitsE bitsR
  simp only [h 0 (by omega), h 1 (by omega), h 2 (by omega), h 3 (by omega), h 4 (by omega), h 5 (by omega), h 6 (by omega), h 7 (by omega), h 8 (by omega), h 9 (by omega), h 10 (by omega), h 11 (by omega), h 12 (by omega), h 13 (by omega), h 14 (by omega), h 15 (by omega), Nat.reduceAdd, Int.natCast_zero, orW_0]
def rgO (l h x : F) : Obs := [(decide (x.k ≤ h.k), true), (decide (l.k ≤ x.k), true)]
def rgsO (l h : F) (f : Nat → F) : List Nat → Obs
  | [] => []
  | j :: r => rgO l h (f j) ++ rgsO l h f r
def z0O (a b : Int) : Obs := [(!(b == 0), false), (!(a == 0), false)]
def zf (f : Nat → F) (js : List Nat) (i : Nat) : F := bif js.contains i then toF 0 else f i
end Bu
namespace Go.Proofs.YtgjohjgmlleebaaGreat
set_option linter.all false
open Go.RowKit Bu Rx

def t2 : Nat → List Bool
  | 0 => []
  | n + 1 => true :: true :: t2 n
theorem nd1Run (f : Nat → F) (a b p : Int) : valR ((run Tryz.prog EG OIR 120).1 72 [ndI 1 f a b, .si .i64 p] [] (some (t2 3 ++ [false, false, true]))) = some (.b true, some [], bitO (zf f [0, 1, 2]) ++ (z0O a b ++ rgsO (toF 0) one_ f [2, 1, 0])) := by kernel_rfl
theorem nd2Run (f : Nat → F) (a b p : Int) : valR ((run Tryz.prog EG OIR 120).1 72 [ndI 2 f a b, .si .i64 p] [] (some (t2 4 ++ [false, false, true]))) = some (.b true, some [], bitO (zf f [0, 1, 2, 12]) ++ (z0O a b ++ rgsO (toF 0) one_ f [2, 1, 0, 12])) := by kernel_rfl
theorem nd3Run (f : Nat → F) (a b p : Int) : valR ((run Tryz.prog EG OIR 120).1 72 [ndI 3 f a b, .si .i64 p] [] (some (t2 2 ++ [false, false, true]))) = some (.b true, some [], bitO (zf f [13, 14]) ++ (z0O a b ++ (rgO minIo_ four_ (f 14) ++ rgO minA_ one_ (f 13)))) := by kernel_rfl
theorem nd4Run (f : Nat → F) (a b p : Int) : valR ((run Tryz.prog EG OIR 120).1 72 [ndI 4 f a b, .si .i64 p] [] (some (t2 7 ++ [false, false, true]))) = some (.b true, some [], bitO (zf f [6, 7, 8, 9, 10, 11, 13]) ++ (z0O a b ++ (rgsO minMt_ maxMt_ f [11, 10, 9, 8, 7, 6] ++ rgO minA_ one_ (f 13)))) := by kernel_rfl
theorem nd5Run (f : Nat → F) (a b p : Int) : valR ((run Tryz.prog EG OIR 120).1 72 [ndI 5 f a b, .si .i64 p] [] (some (t2 1 ++ [false, false, false, false, true]))) = some (.b true, some [], bitO (zf f [15]) ++ ([(decide (b ≥ p), false), (decide (b < 0), false), (decide (a ≥ p), false), (decide (a < 0), false)] ++ rgO (toF 0) one_ (f 15))) := by kernel_rfl
theorem nd6Run (f : Nat → F) (a b p : Int) : valR ((run Tryz.prog EG OIR 120).1 72 [ndI 6 f a b, .si .i64 p] [] (some (t2 4 ++ [false, false, false, true]))) = some (.b true, some [], bitO (zf f [3, 4, 5, 14]) ++ ([(!(b == 0), false), (decide (a ≥ p), false), (decide (a < 0), false)] ++ (rgsO (toF 0) one_ f [5, 4, 3] ++ rgO minIo_ four_ (f 14)))) := by kernel_rfl
theorem rgO_ok {l h x : F} (k : rnB l h x = true) : ObsOk (rgO l h x) := by
  unfold rnB at k
  rw [Bool.and_eq_true] at k
  intro p hp
  simp only [rgO, List.mem_cons, List.not_mem_nil, or_false] at hp
  rcases hp with rfl | rfl
  · exact k.2
  · exact k.1
theorem obs_app {a b : Obs} (ha : ObsOk a) (hb : ObsOk b) : ObsOk (a ++ b) := by
  intro p hp
  rcases List.mem_append.1 hp with h | h
  · exact ha p h
  · exact hb p h
theorem obs_cons {c d : Bool} {b : Obs} (ha : c = d) (hb : ObsOk b) : ObsOk ((c, d) :: b) := by
  intro p hp
  rcases List.mem_cons.1 hp with rfl | h
  · exact ha
  · exact hb p h
theorem obs_nil : ObsOk [] := fun p hp => by cases hp
theorem rgsO_ok {l h : F} {f : Nat → F} : ∀ {js : List Nat}, (∀ j ∈ js, rnB l h (f j) = true) → ObsOk (rgsO l h f js)
  | [], _ => obs_nil
  | j :: r, k => obs_app (rgO_ok (k j (List.mem_cons_self ..))) (rgsO_ok fun i hi => k i (List.mem_cons_of_mem _ hi))
theorem rsB_get {l h : F} {f : Nat → F} {js : List Nat} (k : rsB l h f js = true) : ∀ j ∈ js, rnB l h (f j) = true := List.all_eq_true.1 k
theorem bitO_ok {f : Nat → F} {js os : List Nat} (hc : ∀ j, j < 16 → js.contains j = true ∨ os.contains j = true) (hz : zsB f os = true) : ObsOk (bitO (zf f js)) := by
  have z0 : (toF 0).b = 0 := by decide +kernel
  have z1 : F.zero.b = 0 := by decide +kernel
  refine obs_cons (decide_eq_true (bitsE_0 fun j hj => ?_)) obs_nil
  unfold zf
  cases h : js.contains j
  · have h2 := (hc j hj).resolve_left (by rw [h]; simp)
    have h3 := List.all_eq_true.1 hz j (List.contains_iff_mem.1 h2)
    have h4 := of_decide_eq_true h3
    rw [cond_false, F.ext' h4, z1]
  · rw [cond_true, z0]
theorem z0O_ok {a b : Int} (ha : a = 0) (hb : b = 0) : ObsOk (z0O a b) := by subst ha; subst hb; exact obs_cons rfl (obs_cons rfl obs_nil)
set_option maxRecDepth 10000 in
theorem ndG : PlainOk Tryz.prog 72 (kNd okNd) := by
  intro args ds x ds' ob h ho
  unfold kNd at h
  split at h
  · rename_i y z
    split at h
    · rename_i n p e1 e2
      simp only [Option.some.injEq, Prod.mk.injEq] at h; obtain ⟨rfl, _, rfl⟩ := h
      have hn : okNd n p = true := ho _ (List.mem_singleton.2 rfl)
      refine ⟨[ndV n, .int .i64 p], .bool true, plains_cons (ndOf_plain e1) (plains_cons (intS_plain e2) plains_nil), rfl, fun w => ?_⟩
      obtain ⟨k, f, a, b⟩ := n
      unfold okNd at hn
      simp only at hn
      by_cases h1 : k = 1
      · subst h1
        simp only [decide_true, cond_true, Bool.and_eq_true, decide_eq_true_eq] at hn
        obtain ⟨r1, r2, r3, r4⟩ := hn
        exact calls_of_val goodG oracleIR 120 (nd1Run f a b p) (obs_app (bitO_ok (by decide) r2) (obs_app (z0O_ok r3 r4) (rgsO_ok fun j hj => rsB_get r1 j (by revert hj; revert j; decide)))) rfl rfl w
      · by_cases h2 : k = 2
        · subst h2
          simp only [decide_true, decide_false, h1, cond_true, cond_false, Bool.and_eq_true, decide_eq_true_eq] at hn
          obtain ⟨r1, r2, r3, r4⟩ := hn
          exact calls_of_val goodG oracleIR 120 (nd2Run f a b p) (obs_app (bitO_ok (by decide) r2) (obs_app (z0O_ok r3 r4) (rgsO_ok fun j hj => rsB_get r1 j (by revert hj; revert j; decide)))) rfl rfl w
        · by_cases h3 : k = 3
          · subst h3
            simp only [decide_true, decide_false, h1, h2, cond_true, cond_false, Bool.and_eq_true, decide_eq_true_eq] at hn
            obtain ⟨r0, r1, r2, r3, r4⟩ := hn
            exact calls_of_val goodG oracleIR 120 (nd3Run f a b p) (obs_app (bitO_ok (by decide) r2) (obs_app (z0O_ok r3 r4) (obs_app (rgO_ok r1) (rgO_ok r0)))) rfl rfl w
          · by_cases h4 : k = 4
            · subst h4
              simp only [decide_true, decide_false, h1, h2, h3, cond_true, cond_false, Bool.and_eq_true, decide_eq_true_eq] at hn
              obtain ⟨r0, r1, r2, r3, r4⟩ := hn
              exact calls_of_val goodG oracleIR 120 (nd4Run f a b p) (obs_app (bitO_ok (by decide) r2) (obs_app (z0O_ok r3 r4) (obs_app (rgsO_ok fun j hj => rsB_get r1 j (by revert hj; revert j; decide)) (rgO_ok r0)))) rfl rfl w
            · by_cases h5 : k = 5
              · subst h5
                simp only [decide_true, decide_false, h1, h2, h3, h4, cond_true, cond_false, Bool.and_eq_true, decide_eq_true_eq] at hn
                obtain ⟨r0, r2, a1, a2, b1, b2⟩ := hn
                exact calls_of_val goodG oracleIR 120 (nd5Run f a b p) (obs_app (bitO_ok (by decide) r2) (obs_app (obs_cons (decide_eq_false (by omega)) (obs_cons (decide_eq_false (by omega)) (obs_cons (decide_eq_false (by omega)) (obs_cons (decide_eq_false (by omega)) obs_nil)))) (rgO_ok r0))) rfl rfl w
              · simp only [decide_false, h1, h2, h3, h4, h5, cond_false, Bool.and_eq_true, decide_eq_true_eq] at hn
                obtain ⟨h6, r0, r1, r2, a1, a2, b1⟩ := hn
                subst h6; subst b1
                exact calls_of_val goodG oracleIR 120 (nd6Run f a 0 p) (obs_app (bitO_ok (by decide) r2) (obs_app (obs_cons rfl (obs_cons (decide_eq_false (by omega)) (obs_cons (decide_eq_false (by omega)) obs_nil))) (obs_app (rgsO_ok fun j hj => rsB_get r1 j (by revert hj; revert j; decide)) (rgO_ok r0)))) rfl rfl w
    · cases h
  · cases h
end Go.Proofs.YtgjohjgmlleebaaGreat
namespace Bu
set_option linter.all false
open Rx Go

def ndCK : List CK := [.i .u8, .f, .f, .f, .f, .f, .f, .f, .f, .f, .f, .f, .f, .f, .f, .f, .f, .i .i64, .i .i64]
/-- the cells of a row are within a block -/
theorem at_fl {cells cs : List SV} {off j : Nat} (h : CellsAt cells off cs) (hk : ckOk cs j .f = true) : flAt cells (off + j) = flAt cs j ∧ ckOk cells (off + j) .f = true := by
  have hk' : (match cs[j]? with | some (.fl _) => true | _ => false) = true := hk
  split at hk'
  · rename_i x hx
    have := h j _ hx
    unfold flAt ckOk
    rw [this, hx]; exact ⟨rfl, rfl⟩
  · cases hk'
theorem at_in {cells cs : List SV} {off j : Nat} {k : IntKind} (h : CellsAt cells off cs) (hk : ckOk cs j (.i k) = true) : inAt cells (off + j) = inAt cs j ∧ ckOk cells (off + j) (.i k) = true := by
  have hk' : (match cs[j]? with | some (.i k' _) => decide (k' = k) | some (.si k' _) => decide (k' = k) | _ => false) = true := hk
  split at hk'
  · rename_i k' n hx
    have := h j _ hx
    unfold inAt ckOk
    rw [this, hx]; exact ⟨rfl, hk'⟩
  · rename_i k' n hx
    have := h j _ hx
    unfold inAt ckOk
    rw [this, hx]; exact ⟨rfl, hk'⟩
  · cases hk'
theorem at_sv {cells cs : List SV} {off j : Nat} {k : CK} (h : CellsAt cells off cs) (hk : ckOk cs j k = true) : ckSV cells (off + j) k = ckSV cs j k ∧ ckOk cells (off + j) k = true := by
  cases k with
  | f => obtain ⟨a, b⟩ := at_fl h hk; exact ⟨by unfold ckSV; rw [a], b⟩
  | i k => obtain ⟨a, b⟩ := at_in h hk; exact ⟨by unfold ckSV; rw [a], b⟩
theorem at_row {cells cs : List SV} {off : Nat} (h : CellsAt cells off cs) : ∀ {ks : List CK} {j : Nat}, ckAll cs j ks = true → ckRow cells (off + j) ks = ckRow cs j ks ∧ ckAll cells (off + j) ks = true
  | [], j, _ => ⟨rfl, rfl⟩
  | k :: l, j, e => by
    unfold ckAll at e
    rw [Bool.and_eq_true] at e
    obtain ⟨a, b⟩ := at_sv h e.1
    obtain ⟨c, d⟩ := at_row h e.2
    unfold ckRow ckAll
    rw [show off + j + 1 = off + (j + 1) by omega, a, b, c, d]
    exact ⟨rfl, rfl⟩
/-- a node that is read -/
theorem nd_row (cs : List SV) (o : Nat) : ndOf (.agg (ckRow cs o ndCK)) = some ⟨inAt cs o, ndM (flAt cs (o + 1)) (flAt cs (o + 2)) (flAt cs (o + 3)) (flAt cs (o + 4)) (flAt cs (o + 5)) (flAt cs (o + 6)) (flAt cs (o + 7)) (flAt cs (o + 8)) (flAt cs (o + 9)) (flAt cs (o + 10)) (flAt cs (o + 11)) (flAt cs (o + 12)) (flAt cs (o + 13)) (flAt cs (o + 14)) (flAt cs (o + 15)) (flAt cs (o + 16)), inAt cs (o + 17), inAt cs (o + 18)⟩ := rfl
def ndR (cs : List SV) (o : Nat) : Nd := ⟨inAt cs o, ndM (flAt cs (o + 1)) (flAt cs (o + 2)) (flAt cs (o + 3)) (flAt cs (o + 4)) (flAt cs (o + 5)) (flAt cs (o + 6)) (flAt cs (o + 7)) (flAt cs (o + 8)) (flAt cs (o + 9)) (flAt cs (o + 10)) (flAt cs (o + 11)) (flAt cs (o + 12)) (flAt cs (o + 13)) (flAt cs (o + 14)) (flAt cs (o + 15)) (flAt cs (o + 16)), inAt cs (o + 17), inAt cs (o + 18)⟩
/-- a right program, by its cells -/
def okAt (cs : List SV) (i : Nat) : Bool := ckAll cs (i * 19) ndCK && okNd (ndR cs (i * 19)) i
def okPg (cs : List SV) (len : Nat) : Bool := (plains cs).isSome && (decide (1 ≤ len) && (decide (len ≤ 4096) && (List.range len).all (okAt cs)))
def kRgt (o : List SV → Nat → Bool) : RdF := fun cs len l ds => match l with
  | [] => some (.b true, ds, [(o cs len, true)])
  | _ => none
structure OkPg (cs : List SV) (len : Nat) : Prop where
  pl : ∃ vc, plains cs = some vc
  lo : 1 ≤ len
  hi : len ≤ 4096
  row : ∀ i, i < len → ckAll cs (i * 19) ndCK = true
  nd : ∀ i, i < len → okNd (ndR cs (i * 19)) i = true
theorem okPg_ok {cs : List SV} {len : Nat} (h : okPg cs len = true) : OkPg cs len := by
  unfold okPg at h
  simp only [Bool.and_eq_true, decide_eq_true_eq] at h
  obtain ⟨a, b, c, d⟩ := h
  have e : ∀ i, i < len → okAt cs i = true := fun i hi => List.all_eq_true.1 d i (List.mem_range.2 hi)
  refine ⟨Option.isSome_iff_exists.1 a, b, c, fun i hi => ?_, fun i hi => ?_⟩
  · have := e i hi; unfold okAt at this; rw [Bool.and_eq_true] at this; exact this.1
  · have := e i hi; unfold okAt at this; rw [Bool.and_eq_true] at this; exact this.2
/-- out of the block that the row lies in -/
theorem OkPg.at {cs cells : List SV} {off len : Nat} (h : OkPg cs len) (hc : CellsAt cells off cs) {i : Nat} (hi : i < len) : ckAll cells (off + i * 19) ndCK = true ∧ ndR cells (off + i * 19) = ndR cs (i * 19) := by
  obtain ⟨a, b⟩ := at_row hc (h.row i hi)
  refine ⟨b, ?_⟩
  have e := nd_row cells (off + i * 19)
  rw [a, nd_row cs (i * 19)] at e
  exact (Option.some.inj e).symm
end Bu
namespace Go.Proofs.YtgjohjgmlleebaaGreat
set_option linter.all false
open Go.RowKit Bu Rx

def OCk (v : Nd → Int → Bool) : OracleF := lookO [(72, plainO (kNd v))]
theorem oracleCk : OracleOk Tryz.prog (OCk okNd) := .cons ndG.of (.nil _)
noncomputable def rC : Code := bodyOf Tryz.prog 31
noncomputable def rC0 : Code := seqL rC
noncomputable def rC1 : Code := seqL (seqL (seqR rC))
noncomputable def rBd : Code := inner (inner (seqR (seqL (seqR rC))))
noncomputable def rTl : Code := seqR (seqR rC)
theorem rBody : Tryz.f31.body = some rC := by kernel_rfl
theorem rNt : Tryz.f31.ntmps = 25 := by kernel_rfl
theorem rC_cut : rC = .seq rC0 (.seq (.seq rC1 (.block 0 (.loop rBd))) rTl) := by kernel_rfl
def rT (off len cap : Nat) (c : SV) (x : Nat → SV) : List SV := [.ssl 0 off len cap, x 1, x 2, x 3, x 4, .ssl 0 off len cap, .si .i64 len, c, x 8, x 9, x 10, x 11, x 12, x 13, x 14, x 15, x 16, x 17, x 18, x 19, x 20, x 21, x 22, x 23, x 24]
def rS (e : TypeId) (cells : List SV) (off len cap : Nat) (c : SV) (x : Nat → SV) (d : Dec) : St := ⟨rT off len cap c x, [⟨e, cells, .num⟩], d, []⟩
section
variable (v : Nd → Int → Bool) (e : TypeId) (cells : List SV) (off len cap : Nat) (i : Int) (x : Nat → SV)
def rs0 : St := ⟨(.ssl 0 off len cap :: []) ++ List.replicate 24 (.tup []), [⟨e, cells, .num⟩], none, []⟩
theorem rE0 : Lands Tryz.prog EG (OCk v) 60 rC0 (rs0 e cells off len cap) .normal := by unfold Lands; kernel_rfl
theorem rO0 : (aft Tryz.prog EG (OCk v) 60 rC0 (rs0 e cells off len cap)).ob = [] := by kernel_rfl
theorem rE1 : Lands Tryz.prog EG (OCk v) 60 rC1 (aft Tryz.prog EG (OCk v) 60 rC0 (rs0 e cells off len cap)) .normal := by unfold Lands; kernel_rfl
theorem rT1 : (aft Tryz.prog EG (OCk v) 60 rC1 (aft Tryz.prog EG (OCk v) 60 rC0 (rs0 e cells off len cap))) = ⟨rT off len cap (.i .i64 0) (fun j => bif Nat.beq j 2 then .b false else .tup []), [⟨e, cells, .num⟩], none, []⟩ := by kernel_rfl
theorem rEb : Lands Tryz.prog EG (OCk v) 60 rBd (rS e cells off len cap (.si .i64 i) x (some [true])) .normal := by unfold Lands; kernel_rfl
theorem rOb : (aft Tryz.prog EG (OCk v) 60 rBd (rS e cells off len cap (.si .i64 i) x (some [true]))).ob = [(v (ndR cells (off + i.toNat * 19)) i, true), (ckAll cells (off + i.toNat * 19) ndCK, true), (ixB i len, true), (decide (i < len), true)] := by kernel_rfl
noncomputable def rXn (vv : Nat → Value) : Nat → SV := fun j => ((aft Tryz.prog EG (OCk v) 60 rBd (rS e cells off len cap (.si .i64 i) x (some [true]))).cut 1 vv).T.getD j .np
theorem rCb (vv : Nat → Value) : (aft Tryz.prog EG (OCk v) 60 rBd (rS e cells off len cap (.si .i64 i) x (some [true]))).cut 1 vv = ⟨rT off len cap (.si .i64 (IntKind.i64.wrap (i + 1))) (rXn v e cells off len cap i x vv), [⟨e, cells, .num⟩], some [], (aft Tryz.prog EG (OCk v) 60 rBd (rS e cells off len cap (.si .i64 i) x (some [true]))).ob⟩ := by kernel_rfl
theorem rMb : (aft Tryz.prog EG (OCk v) 60 rBd (rS e cells off len cap (.si .i64 i) x (some [true]))).M.take 1 = [⟨e, cells, .num⟩] := by kernel_rfl
theorem rEx : Lands Tryz.prog EG (OCk v) 60 rBd (rS e cells off len cap (.si .i64 i) x (some [false])) (.exit 0) := by unfold Lands; kernel_rfl
theorem rXo : aft Tryz.prog EG (OCk v) 60 rBd (rS e cells off len cap (.si .i64 i) x (some [false])) = ⟨rT off len cap (.si .i64 i) (fun j => bif Nat.beq j 8 then .b false else x j), [⟨e, cells, .num⟩], some [], [(decide (i < len), false)]⟩ := by kernel_rfl
theorem rEt : Lands Tryz.prog EG (OCk v) 60 rTl (rS e cells off len cap (.si .i64 i) x (some [true, true])) .ret := by unfold Lands; kernel_rfl
theorem rTo : (aft Tryz.prog EG (OCk v) 60 rTl (rS e cells off len cap (.si .i64 i) x (some [true, true]))).ob = [(decide ((len : Int) ≤ 4096), true), (decide ((len : Int) > 0), true)] := by kernel_rfl
theorem rTr : resultS Tryz.prog Tryz.f31 (aft Tryz.prog EG (OCk v) 60 rTl (rS e cells off len cap (.si .i64 i) x (some [true, true]))) = some (.b true) := by kernel_rfl
theorem rTM : (aft Tryz.prog EG (OCk v) 60 rTl (rS e cells off len cap (.si .i64 i) x (some [true, true]))).M = [⟨e, cells, .num⟩] := by kernel_rfl
end
theorem rgtG : RdOk Tryz.prog 31 (kRgt okPg) := by
  intro cs len l ds x ds' ob h ho
  unfold kRgt at h
  split at h
  · simp only [Option.some.injEq, Prod.mk.injEq] at h; obtain ⟨rfl, _, rfl⟩ := h
    have K := okPg_ok (ho (okPg cs len, true) (List.mem_singleton.2 rfl))
    obtain ⟨vc, hc⟩ := K.pl
    refine ⟨vc, [], .bool true, hc, rfl, rfl, fun w r off cap hw => ?_⟩
    refine rd_of_runs (d := none) Tryz.func31 rBody hc (l := []) rfl (x := .b true) rfl (fun e cells off cap hca hid => ?_) w r off cap hw
    have hB : ∀ {s : St}, s.M.take 1 = [⟨e, cells, .num⟩] → ∀ b ∈ s.M.take 1, idsLts 1 b.cells = true := fun hs b hb => by
      rw [hs, List.mem_singleton] at hb
      subst hb
      exact idsLts_mono (Nat.zero_le 1) hid
    rw [rC_cut, rNt]
    show RunsP Tryz.prog _ (rs0 e cells off len cap) .ret _
    have ob0 : ObsOk (aft Tryz.prog EG (OCk okNd) 60 rC0 (rs0 e cells off len cap)).ob := by rw [rO0]; exact obs_nil
    refine Lands.seq goodG oracleCk (rE0 okNd e cells off len cap) ob0 ?_
    refine RunsP.seq (Φ := fun t => ∃ y, t = ⟨rT off len cap (.si .i64 len) y, [⟨e, cells, .num⟩], none, []⟩) ?_ fun t ⟨y, ht⟩ => ?_
    · have ob1 : ObsOk (aft Tryz.prog EG (OCk okNd) 60 rC1 (aft Tryz.prog EG (OCk okNd) 60 rC0 (rs0 e cells off len cap))).ob := by rw [rT1]; exact obs_nil
      refine Lands.seq goodG oracleCk (rE1 okNd e cells off len cap) ob1 ?_
      rw [rT1]
      refine RunsP.retell (s := rS e cells off len cap (.si .i64 0) (fun j => bif Nat.beq j 2 then .b false else .tup []) none) (same_T (fun m => by simp only [rS, rT, dens, den]) rfl) ?_
      refine loop_rows (fun (i : Nat) y => rS e cells off len cap (.si .i64 (i : Int)) y none) len ?_ ?_ _
      · intro i y hi
        obtain ⟨a1, a2⟩ := K.at hca hi
        have hob : ObsOk (aft Tryz.prog EG (OCk okNd) 60 rBd (rS e cells off len cap (.si .i64 i) y (some [true]))).ob := by
          rw [rOb]
          simp only [Int.toNat_natCast]
          exact obs_cons (by rw [a2]; exact K.nd i hi) (obs_cons a1 (obs_cons (by unfold ixB; simp; omega) (obs_cons (decide_eq_true (by omega)) obs_nil)))
        refine RunsP.re (d := some [true]) (o := []) (RunsP.round (k := 1) (Lands.runs goodG oracleCk (rEb okNd e cells off len cap i y) hob) (Nat.le_refl _) (hB (rMb okNd e cells off len cap i y)) fun v => ?_)
        have hw : IntKind.i64.wrap ((i : Int) + 1) = ((i + 1 : Nat) : Int) := wrap_s (by have := K.hi; omega)
        have hc' := rCb okNd e cells off len cap i y v
        rw [hw] at hc'
        exact ⟨rS e cells off len cap (.si .i64 ((i + 1 : Nat) : Int)) (rXn okNd e cells off len cap i y v) none, ⟨_, rfl⟩, same_eq (congrArg St.T hc').symm (congrArg St.M hc').symm⟩
      · intro y
        have hob : ObsOk (aft Tryz.prog EG (OCk okNd) 60 rBd (rS e cells off len cap (.si .i64 len) y (some [false]))).ob := by
          rw [rXo]; exact obs_cons (decide_eq_false (by omega)) obs_nil
        refine RunsP.re (d := some [false]) (o := []) (Lands.fin goodG oracleCk (rEx okNd e cells off len cap len y) hob ?_)
        exact ⟨⟨rT off len cap (.si .i64 len) (fun j => bif Nat.beq j 8 then .b false else y j), [⟨e, cells, .num⟩], none, []⟩, ⟨_, rfl⟩, same_eq (congrArg St.T (rXo okNd e cells off len cap len y)).symm (congrArg St.M (rXo okNd e cells off len cap len y)).symm⟩
    · subst ht
      have hob : ObsOk (aft Tryz.prog EG (OCk okNd) 60 rTl (rS e cells off len cap (.si .i64 len) y (some [true, true]))).ob := by
        rw [rTo]; exact obs_cons (decide_eq_true (by have := K.hi; omega)) (obs_cons (decide_eq_true (by have := K.lo; omega)) obs_nil)
      refine RunsP.re (d := some [true, true]) (o := []) (Lands.all goodG oracleCk (rEt okNd e cells off len cap len y) hob ?_)
      exact ⟨rTr okNd e cells off len cap len y, [], rTM okNd e cells off len cap len y⟩
  · cases h
end Go.Proofs.YtgjohjgmlleebaaGreat
