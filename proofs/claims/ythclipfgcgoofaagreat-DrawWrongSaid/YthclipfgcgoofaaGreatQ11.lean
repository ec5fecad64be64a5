/- vec.Unit, plain: the unit vector of a triple above the horizon. VndfTurned, plain: what is rounded has one answer. Two lines of interval arithmetic side by side: each row of the one is a row of the other, or that turned; found by looking. What mirrors of a leaf send, plain: no errors, the same both ways, points. micro, fresnel, lambert by the reckoner. micro.Look and what it calls as known functions. micro.Look as a known function. pairs.Value, by the reckoner and the table. pairs: runs of Right, look and the four methods. pairs: look, the four methods, densities: runs. pairs: look and the methods as known functions of a leaf. pairs.Value as a known function. pairs.Value and pairs.Density as known functions. pairs.Density as a known function. -/
import Derived.Test.YthclipfgcgoofaaGreatQ10
namespace Bu
set_option linter.all false
open Rx Go
structure OneP (v : V3) : Prop where
  x : In1 v.x
  y : In1 v.y
  z : In1 v.z
  up : 1 / 128 ≤ v.z.lo.q
theorem Dn.one {r s : F} {v : Rat} (h : Dn r v) (k : Dn s v) : r = s := by
  have a := h.top _ k.le; have b := k.top _ h.le
  exact q_inj (by grind)
theorem Up.one {r s : F} {v : Rat} (h : Up r v) (k : Up s v) : r = s := by
  have a := h.bot _ k.ge; have b := k.bot _ h.ge
  exact q_inj (by grind)
theorem RD.one {v : Rat} {p s : F × Int} (h : RD v p) (k : RD v s) : p.2 = s.2 ∧ (p.2 = 0 → p.1 = s.1) := by
  rcases h with ⟨a, b⟩ | ⟨a, b⟩ <;> rcases k with ⟨c, d⟩ | ⟨c, d⟩
  · exact ⟨by rw [a, c], fun _ => b.one d⟩
  · exact absurd (d p.1) (by have := b.le; grind)
  · exact absurd (b s.1) (by have := d.le; grind)
  · exact ⟨by rw [a, c], fun h => by rw [a] at h; exact absurd h (by decide)⟩
theorem RU.one {v : Rat} {p s : F × Int} (h : RU v p) (k : RU v s) : p.2 = s.2 ∧ (p.2 = 0 → p.1 = s.1) := by
  rcases h with ⟨a, b⟩ | ⟨a, b⟩ <;> rcases k with ⟨c, d⟩ | ⟨c, d⟩
  · exact ⟨by rw [a, c], fun _ => b.one d⟩
  · exact absurd (d p.1) (by have := b.ge; grind)
  · exact absurd (b s.1) (by have := d.ge; grind)
  · exact ⟨by rw [a, c], fun h => by rw [a] at h; exact absurd h (by decide)⟩
theorem SqD.one {r s a : F} (h : SqD r a) (k : SqD s a) : r = s := by
  have a := h.top _ k.nn k.le; have b := k.top _ h.nn h.le
  exact q_inj (by grind)
theorem SqU.one {r s a : F} (h : SqU r a) (k : SqU s a) : r = s := by
  have a := h.bot _ k.nn k.ge; have b := k.bot _ h.nn h.ge
  exact q_inj (by grind)
theorem Dn.turn {r : F} {v : Rat} (h : Dn r v) : Up r.neg (-v) := by
  refine ⟨by rw [q_neg]; have := h.le; grind, fun c hc => ?_⟩
  have := h.top c.neg (by rw [q_neg]; grind)
  rw [q_neg] at this ⊢; grind
theorem Up.turn {r : F} {v : Rat} (h : Up r v) : Dn r.neg (-v) := by
  refine ⟨by rw [q_neg]; have := h.ge; grind, fun c hc => ?_⟩
  have := h.bot c.neg (by rw [q_neg]; grind)
  rw [q_neg] at this ⊢; grind
theorem I.one {a b : I} (h1 : a.lo = b.lo) (h2 : a.hi = b.hi) : a = b := by cases a; cases b; simp only at h1 h2; subst h1; subst h2; rfl
theorem AllR.one {r u : I} {p q s t p' q' s' t' : Rat} (h : AllR r p q s t) (k : AllR u p' q' s' t')
    (hp : (p' = p ∨ p' = q ∨ p' = s ∨ p' = t) ∧ (q' = p ∨ q' = q ∨ q' = s ∨ q' = t) ∧ (s' = p ∨ s' = q ∨ s' = s ∨ s' = t) ∧ (t' = p ∨ t' = q ∨ t' = s ∨ t' = t))
    (hk : (p = p' ∨ p = q' ∨ p = s' ∨ p = t') ∧ (q = p' ∨ q = q' ∨ q = s' ∨ q = t') ∧ (s = p' ∨ s = q' ∨ s = s' ∨ s = t') ∧ (t = p' ∨ t = q' ∨ t = s' ∨ t = t')) : r = u := by
  obtain ⟨a1, a2, a3, a4⟩ := h.lo; obtain ⟨b1, b2, b3, b4⟩ := h.hi
  obtain ⟨c1, c2, c3, c4⟩ := k.lo; obtain ⟨d1, d2, d3, d4⟩ := k.hi
  have e1 : ∀ x, (x = p ∨ x = q ∨ x = s ∨ x = t) → r.lo.q ≤ x ∧ x ≤ r.hi.q := by rintro x (rfl | rfl | rfl | rfl) <;> exact ⟨by assumption, by assumption⟩
  have e2 : ∀ x, (x = p' ∨ x = q' ∨ x = s' ∨ x = t') → u.lo.q ≤ x ∧ x ≤ u.hi.q := by rintro x (rfl | rfl | rfl | rfl) <;> exact ⟨by assumption, by assumption⟩
  obtain ⟨p1, p2, p3, p4⟩ := hp; obtain ⟨k1, k2, k3, k4⟩ := hk
  have f1 := k.top (e1 _ p1).1 (e1 _ p2).1 (e1 _ p3).1 (e1 _ p4).1
  have f2 := h.top (e2 _ k1).1 (e2 _ k2).1 (e2 _ k3).1 (e2 _ k4).1
  have g1 := k.bot (e1 _ p1).2 (e1 _ p2).2 (e1 _ p3).2 (e1 _ p4).2
  have g2 := h.bot (e2 _ k1).2 (e2 _ k2).2 (e2 _ k3).2 (e2 _ k4).2
  exact I.one (q_inj (by grind)) (q_inj (by grind))
theorem turn_q (a : I) : (turnI a).lo.q = -a.hi.q ∧ (turnI a).hi.q = -a.lo.q := ⟨q_neg _, q_neg _⟩
theorem AllR.turn {r : I} {p q s t : Rat} (h : AllR r p q s t) : AllR (turnI r) (-p) (-q) (-s) (-t) := by
  obtain ⟨a1, a2, a3, a4⟩ := h.lo; obtain ⟨b1, b2, b3, b4⟩ := h.hi
  obtain ⟨e1, e2⟩ := turn_q r
  refine ⟨⟨by grind, by grind, by grind, by grind⟩, ⟨by grind, by grind, by grind, by grind⟩, ?_, ?_⟩
  · rcases h.hiE with k | k | k | k
    · exact .inl k.turn
    · exact .inr (.inl k.turn)
    · exact .inr (.inr (.inl k.turn))
    · exact .inr (.inr (.inr k.turn))
  · rcases h.loE with k | k | k | k
    · exact .inl k.turn
    · exact .inr (.inl k.turn)
    · exact .inr (.inr (.inl k.turn))
    · exact .inr (.inr (.inr k.turn))
section
variable {v w : List I} {i j i' j' : Nat} {r u : I}
end
def ChainR : List Bu.Op → List I → List I → Prop
  | [], v, u => u = v
  | o :: l, v, u => ∃ r, (Fact o v r ∧ ArgsRt o v) ∧ ChainR l (r :: v) u
theorem eval_chainR : ∀ {l : List Bu.Op} {v : List I} {e : Int}, (evalK KkR l v e).2 = 0 → ChainR l v (evalK KkR l v e).1
  | [], _, _, _ => rfl
  | o :: l, v, e, h => by
    have h2 := eval_chainR (l := l) h
    obtain ⟨g1, g3, g2⟩ := step_fact (eval_chain (l := l) h).1
    exact ⟨_, ⟨g2, g3⟩, h2⟩
theorem chain_drop : ∀ {l : List Bu.Op} {v u : List I}, ChainR l v u → u.drop l.length = v
  | [], v, u, h => h
  | o :: l, v, u, ⟨r, _, h⟩ => by
    have := chain_drop h
    rw [show (o :: l).length = l.length + 1 from rfl, ← List.drop_drop, this]; rfl
theorem chain_at : ∀ {l : List Bu.Op} {v u : List I}, ChainR l v u → ∀ {p : Nat} {o : Bu.Op}, l.reverse[p]? = some o → Fact o (u.drop (p + 1)) (gt u p) ∧ ArgsRt o (u.drop (p + 1))
  | [], _, _, _, p, o, h => by simp at h
  | o :: l, v, u, ⟨r, f, h⟩, p, o', hp => by
    rw [List.reverse_cons] at hp
    by_cases k : p < l.reverse.length
    · rw [List.getElem?_append_left k] at hp
      exact chain_at h hp
    · rw [List.getElem?_append_right (by omega)] at hp
      have hl : l.reverse.length = l.length := List.length_reverse
      have d := chain_drop h
      have e : p - l.reverse.length = 0 := by
        cases c : p - l.reverse.length with
        | zero => rfl
        | succ n => rw [c] at hp; simp at hp
      rw [e] at hp
      have pe : p = l.length := by omega
      subst pe
      have eo : o = o' := by simpa using hp
      subst eo
      have e1 : gt u l.length = r := by
        have : (u.drop l.length)[0]? = some r := by rw [d]; rfl
        rw [List.getElem?_drop] at this
        unfold gt
        rw [List.getD_eq_getElem?_getD, show l.length = l.length + 0 from rfl, this]; rfl
      have e2 : u.drop (l.length + 1) = v := by rw [← List.drop_drop, d]; rfl
      rw [e1, e2]; exact f
theorem one_box {v : V3} (h : OneP v) : InB v.x b11 ∧ InB v.y b11 ∧ InB v.z bzz := by
  have e : bzz.lo.q = 1 / 128 := by have : bzz.lo.q * 128 = 1 := q_of' (n := 1) (s := 7) (by decide +kernel) rfl; grind
  exact ⟨⟨h.x.lo, h.x.hi, h.x.rt⟩, ⟨h.y.lo, h.y.hi, h.y.rt⟩, ⟨q_le.1 (by rw [e]; exact h.up), h.z.hi, h.z.rt⟩⟩
def lnR (E : List I × Int) (i : Nat) : I × Int := bif neB E.2 then (I.zero, E.2) else (gt E.1 i, 0)
def fdK (K : Kk) (c n : I) : List I × Int := evalK K frD [c, n] 0
def u01O (c : I) : Obs := [(decide (c.hi.k ≤ one64.k), true), (decide (z64.k ≤ c.lo.k), true), (rt c, true)]
def bndO (c : I) (l h : F) : Obs := [(decide (c.hi.k ≤ h.k), true), (decide (l.k ≤ c.lo.k), true), (rt c, true)]
def kHf (f : V3 → V3 → List I × Int) : List SV → Dec → Option (SV × Dec × Obs)
  | [.agg [.fl a, .fl b, .fl c, .fl d, .fl e, .fl f'], .agg [.fl g, .fl h, .fl i, .fl j, .fl k, .fl l]], ds =>
    some (.tup [.agg [.fl (lnR (f ⟨⟨a, b⟩, ⟨c, d⟩, ⟨e, f'⟩⟩ ⟨⟨g, h⟩, ⟨i, j⟩, ⟨k, l⟩⟩) 0).1.lo, .fl (lnR (f ⟨⟨a, b⟩, ⟨c, d⟩, ⟨e, f'⟩⟩ ⟨⟨g, h⟩, ⟨i, j⟩, ⟨k, l⟩⟩) 0).1.hi], .agg [.fl (lnR (f ⟨⟨a, b⟩, ⟨c, d⟩, ⟨e, f'⟩⟩ ⟨⟨g, h⟩, ⟨i, j⟩, ⟨k, l⟩⟩) 3).1.lo, .fl (lnR (f ⟨⟨a, b⟩, ⟨c, d⟩, ⟨e, f'⟩⟩ ⟨⟨g, h⟩, ⟨i, j⟩, ⟨k, l⟩⟩) 3).1.hi], .si .i64 (f ⟨⟨a, b⟩, ⟨c, d⟩, ⟨e, f'⟩⟩ ⟨⟨g, h⟩, ⟨i, j⟩, ⟨k, l⟩⟩).2], ds, dirO ⟨⟨a, b⟩, ⟨c, d⟩, ⟨e, f'⟩⟩ ++ dirO ⟨⟨g, h⟩, ⟨i, j⟩, ⟨k, l⟩⟩)
  | _, _ => none
def kI2 (f : I → I → I × Int) (o : I → I → Obs) : List SV → Dec → Option (SV × Dec × Obs)
  | [.agg [.fl a, .fl b], .agg [.fl c, .fl d]], ds => some (.tup [.agg [.fl (f ⟨a, b⟩ ⟨c, d⟩).1.lo, .fl (f ⟨a, b⟩ ⟨c, d⟩).1.hi], .si .i64 (f ⟨a, b⟩ ⟨c, d⟩).2], ds, o ⟨a, b⟩ ⟨c, d⟩)
  | _, _ => none
end Bu
namespace Go.Proofs.YthclipfgcgoofaaGreat
set_option linter.all false
open Go.RowKit Bu Rx
theorem fdRun (K : Kk) (c n : I) (b : Bool) : valR ((run Tryz.prog EG (lookO (OCL K)) 80).1 68 [ivS c, ivS n] [] (some [true, true, false, false, false, false, b])) = some (.tup (bif b then [ivS I.zero, .si .i64 (fdK K c n).2] else [ivS (gt (fdK K c n).1 0), .i .i64 0]), some [], [(neB (fdK K c n).2, b), (decide (four64.k < n.hi.k), false), (decide (n.lo.k < minIo.k), false), (decide (one64.k < c.hi.k), false), (decide (c.lo.k < z64.k), false), (rt n, true), (rt c, true)]) := by cases b <;> kernel_rfl
end Go.Proofs.YthclipfgcgoofaaGreat
namespace Bu
set_option linter.all false
open Rx Go
theorem ob_c {c b : Bool} {ob : Obs} (h : c = b) (k : ObsOk ob) : ObsOk ((c, b) :: ob) := fun q hq => by
  rcases List.mem_cons.1 hq with rfl | hq
  · exact h
  · exact k q hq
theorem ob_n : ObsOk [] := fun _ h => by cases h
theorem ob_a {a b : Obs} (h : ObsOk a) (k : ObsOk b) : ObsOk (a ++ b) := fun q hq => by
  rcases List.mem_append.1 hq with hq | hq
  · exact h q hq
  · exact k q hq
theorem ob_l {a b : Obs} (h : ObsOk (a ++ b)) : ObsOk a := fun q hq => h q (List.mem_append_left _ hq)
theorem ob_r {a b : Obs} (h : ObsOk (a ++ b)) : ObsOk b := fun q hq => h q (List.mem_append_right _ hq)
theorem ob_h {c b : Bool} {ob : Obs} (h : ObsOk ((c, b) :: ob)) : c = b := h (c, b) (List.mem_cons_self ..)
theorem ob_t {c b : Bool} {ob : Obs} (h : ObsOk ((c, b) :: ob)) : ObsOk ob := fun q hq => h q (List.mem_cons_of_mem _ hq)
theorem not_lt {a b : Int} (h : decide (a ≤ b) = true) : decide (b < a) = false := decide_eq_false (by have := of_decide_eq_true h; omega)
def fdO (c n : I) : Obs := bndO n minIo four64 ++ u01O c
structure Gl4 where
  ln : I
  hf : I
  v : I
  d : I
def Gl4.sv (g : Gl4) : SV := .agg [.fl g.ln.lo, .fl g.ln.hi, .fl g.hf.lo, .fl g.hf.hi, .fl g.v.lo, .fl g.v.hi, .fl g.d.lo, .fl g.d.hi]
def Gl4.zero : Gl4 := ⟨I.zero, I.zero, I.zero, I.zero⟩
def glO (v u : V3) (al : I) : Obs := alO al ++ (dirO v ++ dirO u)
end Bu
namespace Go.Proofs.YthclipfgcgoofaaGreat
set_option linter.all false
open Go.RowKit Bu Rx
theorem I2_of {g : FuncId} {O : OracleF} (hO : OracleOk Tryz.prog O) {n : Nat} {E : I → I → List I × Int} {i : Nat} {o o' : I → I → Obs} {l : Bool → List Bool} (run : ∀ c d b, valR ((run Tryz.prog EG O n).1 g [ivS c, ivS d] [] (some (l b))) = some (.tup (bif b then [ivS I.zero, .si .i64 (E c d).2] else [ivS (gt (E c d).1 i), .i .i64 0]), some [], (neB (E c d).2, b) :: o' c d))
    (ho : ∀ c d, ObsOk (o c d) → ObsOk (o' c d)) : PlainOk Tryz.prog g (kI2 (fun c d => lnR (E c d) i) o) := by
  intro args ds x ds' ob h hob
  unfold kI2 at h
  split at h
  · rename_i a b c d
    simp only [Option.some.injEq, Prod.mk.injEq] at h
    obtain ⟨rfl, _, rfl⟩ := h
    refine ⟨[.agg #[.float .f64 a.b, .float .f64 b.b], .agg #[.float .f64 c.b, .float .f64 d.b]], _, rfl, rfl, fun w => ?_⟩
    have r := run ⟨a, b⟩ ⟨c, d⟩ (neB (E ⟨a, b⟩ ⟨c, d⟩).2)
    unfold lnR
    cases k : neB (E ⟨a, b⟩ ⟨c, d⟩).2 <;> rw [k] at r <;> exact calls_of_val goodG hO n r (ob_c rfl (ho _ _ hob)) rfl rfl w
  · cases h
theorem fdG : PlainOk Tryz.prog 68 (kI2 (fun c n => lnR (fdK KkR c n) 0) fdO) := I2_of oracleCL (l := fun b => [true, true, false, false, false, false, b]) (fdRun KkR) fun c n h => by
  have a := ob_l h; have b := ob_r h
  exact ob_c (not_lt (ob_h a)) (ob_c (not_lt (ob_h (ob_t a))) (ob_c (not_lt (ob_h b)) (ob_c (not_lt (ob_h (ob_t b))) (ob_c (ob_h (ob_t (ob_t a))) (ob_c (ob_h (ob_t (ob_t b))) ob_n)))))
end Go.Proofs.YthclipfgcgoofaaGreat
namespace Bu
set_option linter.all false
open Rx Go
theorem dir_z {v : V3} (h : ObsOk (dirO v)) : ObsOk (u01O v.z) := ob_c (ob_h h) (ob_c (ob_h (ob_t h)) (ob_c (ob_h (ob_t (ob_t (ob_t (ob_t (ob_t (ob_t h))))))) ob_n))
end Bu
namespace Go.Proofs.YthclipfgcgoofaaGreat
set_option linter.all false
open Go.RowKit Bu Rx
end Go.Proofs.YthclipfgcgoofaaGreat
namespace Rx
set_option linter.all false
open Go Go.RowKit
def stO (P : Program) (E : ExtF) (O : OracleF) (n : Nat) (c : Code) (s : St) : St := match (run P E O n).2 c s with | some (_, s') => s' | none => s
def opsOf : Code → Array Oper | .region _ ops _ => ops | _ => #[]
end Rx
namespace Go.Proofs.YthclipfgcgoofaaGreat
set_option linter.all false
open Go.RowKit Bu Rx
def nodeS (k : Int) (f : Nat → F) : SV := .agg [.i .u8 k, .fl (f 0), .fl (f 1), .fl (f 2), .fl (f 3), .fl (f 4), .fl (f 5), .fl (f 6), .fl (f 7), .fl (f 8), .fl (f 9), .fl (f 10), .fl (f 11), .fl (f 12), .fl (f 13), .fl (f 14), .fl (f 15), .i .i64 0, .i .i64 0]
def kLk (o : SV → Obs) : List SV → Dec → Option (SV × Dec × Obs)
  | [x], ds => some (.i .i64 0, ds, o x)
  | _, _ => none
def kLf (g : SV → I × Int) (o : SV → Obs) : List SV → Dec → Option (SV × Dec × Obs)
  | [x], ds => some (.tup [.agg [.fl (g x).1.lo, .fl (g x).1.hi], .si .i64 (g x).2], ds, o x)
  | _, _ => none
structure Lfs where
  lk : SV → Obs
  g : SV → I × Int
  o : SV → Obs
noncomputable def OVl (L : Lfs) (m : Nat) : OracleF := lookO [(137, plainO (kLk L.lk)), (m, plainO (kLf L.g L.o))]
noncomputable def vC : Code := bodyOf Tryz.prog 148
noncomputable def vR0 : Code := seqL vC
noncomputable def vR1 : Code := seqL (seqR vC)
noncomputable def vX : Code := seqL (seqR (seqR vC))
noncomputable def vR5 : Code := seqL (seqR (seqR (seqR vC)))
noncomputable def vR6 : Code := seqL (seqR (seqR (seqR (seqR vC))))
section
variable (L : Lfs) (g : Nat) (k : Int) (f : Nat → F) (c : Int) (v u : V3) (r : Nat)
def vArgs : List SV := [nodeS k f, .si .i64 c, v.sv, u.sv]
noncomputable def vs0 : St := ⟨vArgs k f c v u ++ List.replicate 30 (.tup []), [], none, []⟩
noncomputable def vs1 : St := stO Tryz.prog EG (OVl L g) 60 vR0 (vs0 k f c v u)
noncomputable def vs2 : St := stO Tryz.prog EG (OVl L g) 60 vR1 (vs1 L g k f c v u)
noncomputable def vs3 : St := stO Tryz.prog EG (OVl L g) 60 vX (vs2 L g k f c v u)
end
noncomputable def o5 (i : Nat) : Oper := (opsOf vR5).toList.getD i default
noncomputable def o6 (i : Nat) : Oper := (opsOf vR6).toList.getD i default
theorem l5 : (opsOf vR5).toList = o5 0 :: o5 1 :: o5 2 :: o5 3 :: o5 4 :: (opsOf vR5).toList.drop 5 := by kernel_rfl
theorem l6 : (opsOf vR6).toList = (opsOf vR6).toList.take 3 ++ o6 3 :: (opsOf vR6).toList.drop 4 := by kernel_rfl
theorem g5 : (o5 0).guard = none ∧ (o5 1).guard = none ∧ (o5 2).guard = none ∧ (o5 3).guard = none ∧ (o5 4).guard = none ∧ (o6 3).guard = none := ⟨by kernel_rfl, by kernel_rfl, by kernel_rfl, by kernel_rfl, by kernel_rfl, by kernel_rfl⟩
theorem p5 : (o5 0).op = Op.makeMap 254 none ∧ (o5 1).op = Op.insert 254 (.tmp 24) (.const (.int .u8 1)) (.func 206) ∧ (o5 2).op = Op.insert 254 (.tmp 24) (.const (.int .u8 2)) (.func 207) ∧ (o5 3).op = Op.insert 254 (.tmp 24) (.const (.int .u8 3)) (.func 208) ∧ (o5 4).op = Op.insert 254 (.tmp 24) (.const (.int .u8 4)) (.func 209) ∧ (o6 3).op = Op.lookup 254 (.tmp 26) (.tmp 28) false := ⟨by kernel_rfl, by kernel_rfl, by kernel_rfl, by kernel_rfl, by kernel_rfl, by kernel_rfl⟩
attribute [irreducible] o5 o6 vC vR0 vR1 vX vR5 vR6
end Go.Proofs.YthclipfgcgoofaaGreat
namespace Bu
set_option linter.all false
open Rx Go
def q3E (f b : Nat → F) (i : Nat) : Bool := decide ((f i).k = (b i).k) && (decide ((f (i + 1)).k = (b (i + 1)).k) && (decide ((f (i + 2)).k = (b (i + 2)).k) && true))
def eqNd (f b : Nat → F) : Bool := q3E f b 0 && (q3E f b 3 && (q3E f b 6 && (q3E f b 9 && (decide ((f 12).k = (b 12).k) && (decide ((f 13).k = (b 13).k) && (decide ((f 14).k = (b 14).k) && (decide ((f 15).k = (b 15).k) && ((0 : Int) == 0 && ((0 : Int) == 0 && true)))))))))
def bare1 (f : Nat → F) (i : Nat) : F := bif Nat.blt i 3 then f i else z64
def bare2 (f : Nat → F) (i : Nat) : F := bif Nat.blt i 3 || Nat.beq i 12 then f i else z64
def bare3 (f : Nat → F) (i : Nat) : F := bif Nat.beq i 13 || Nat.beq i 14 then f i else z64
def bare4 (f : Nat → F) (i : Nat) : F := bif Nat.beq i 13 || (Nat.blt 5 i && Nat.blt i 12) then f i else z64
def rngO (x l h : F) (o : Obs) : Obs := (decide (h.k < x.k), false) :: (decide (x.k < l.k), false) :: o
def rtO1 (f : Nat → F) : Obs := (eqNd f (bare1 f), true) :: rngO (f 2) z64 one64 (rngO (f 1) z64 one64 (rngO (f 0) z64 one64 []))
def rtO2 (f : Nat → F) : Obs := (eqNd f (bare2 f), true) :: rngO (f 12) z64 one64 (rngO (f 2) z64 one64 (rngO (f 1) z64 one64 (rngO (f 0) z64 one64 [])))
def rtO3 (f : Nat → F) : Obs := (eqNd f (bare3 f), true) :: rngO (f 14) minIo four64 (rngO (f 13) minA one64 [])
def rtO4 (f : Nat → F) : Obs := (eqNd f (bare4 f), true) :: rngO (f 11) minMt maxMt (rngO (f 10) minMt maxMt (rngO (f 9) minMt maxMt (rngO (f 8) minMt maxMt (rngO (f 7) minMt maxMt (rngO (f 6) minMt maxMt (rngO (f 13) minA one64 []))))))
def rtOb (k : Int) (f : Nat → F) : Obs := match k with
  | 1 => rtO1 f
  | 2 => rtO2 f
  | 3 => rtO3 f
  | 4 => rtO4 f
  | _ => [(false, true)]
end Bu
namespace Go.Proofs.YthclipfgcgoofaaGreat
set_option linter.all false
open Go.RowKit Bu Rx
end Go.Proofs.YthclipfgcgoofaaGreat
namespace Bu
set_option linter.all false
open Rx Go
def pF (x : F) : I := ⟨x, x⟩
end Bu
namespace Go.Proofs.YthclipfgcgoofaaGreat
set_option linter.all false
open Go.RowKit Bu Rx
def ndF (a0 a1 a2 a3 a4 a5 a6 a7 a8 a9 a10 a11 a12 a13 a14 a15 : F) (i : Nat) : F := [a0, a1, a2, a3, a4, a5, a6, a7, a8, a9, a10, a11, a12, a13, a14, a15].getD i z64
end Go.Proofs.YthclipfgcgoofaaGreat
namespace Bu
set_option linter.all false
open Rx Go
structure Lf where
  k : Int
  f : Nat → F
  c : Int
  v : V3
  u : V3
end Bu
namespace Go.Proofs.YthclipfgcgoofaaGreat
set_option linter.all false
open Go.RowKit Bu Rx
def etaF (f : Nat → F) : Nat → F := ndF (f 0) (f 1) (f 2) (f 3) (f 4) (f 5) (f 6) (f 7) (f 8) (f 9) (f 10) (f 11) (f 12) (f 13) (f 14) (f 15)
def lkOl (l : Lf) : Obs := dirO l.u ++ (dirO l.v ++ ([(decide (l.c < 3), true), (decide (0 ≤ l.c), true)] ++ rtOb l.k (etaF l.f)))
end Go.Proofs.YthclipfgcgoofaaGreat
namespace Bu
set_option linter.all false
open Rx Go
end Bu
namespace Go.Proofs.YthclipfgcgoofaaGreat
set_option linter.all false
open Go.RowKit Bu Rx
def chO (l : Lf) : Obs := [(decide (l.c < 3), true), (decide (0 ≤ l.c), true)]
def olL (l : Lf) : Obs := chO l ++ u01O (pF (l.f l.c.toNat))
def olO (l : Lf) : Obs := chO l ++ (bndO (pF (l.f l.c.toNat)) z64 one64 ++ (bndO (pF (l.f 12)) z64 one64 ++ (dirO l.v ++ dirO l.u)))
def olP (l : Lf) : Obs := glO l.v l.u (pF (l.f 13)) ++ bndO (pF (l.f 14)) minIo four64
def olM (l : Lf) : Obs := chO l ++ (glO l.v l.u (pF (l.f 13)) ++ (bndO (pF (l.f (6 + l.c.toNat))) minMt maxMt ++ bndO (pF (l.f (9 + l.c.toNat))) minMt maxMt))
section
variable (L : Lfs) (k : Int) (f : Nat → F) (c : Int) (v u : V3) (r : Nat)
end
def vlO (l : Lf) : Obs := lkOl l ++ match l.k with
  | 1 => olL l
  | 2 => olO l
  | 3 => olP l
  | 4 => olM l
  | _ => [(false, true)]
def dnO4 (l : Lf) : Obs := lkOl l ++ match l.k with
  | 1 => u01O l.v.z
  | 2 => u01O l.v.z
  | 3 => glO l.v l.u (pF (l.f 13))
  | 4 => glO l.v l.u (pF (l.f 13))
  | _ => [(false, true)]
end Go.Proofs.YthclipfgcgoofaaGreat
