/- pairs.Value: a table of functions in a map, between two pieces that the reckoner runs. micro.Look as a known function. pairs.Value, by the reckoner and the table. pairs: runs of Right, look and the four methods. pairs: look, the four methods, densities: runs. pairs: look and the methods as known functions of a leaf. pairs.Value as a known function. pairs.Value and pairs.Density as known functions. pairs.Density as a known function. Layer 11's laws: leaves, two directions, parts of 2^32: known functions. dens.all: chances of programs. dens.all: the chances of a program, plain. The reckoner: a fresh row becomes a row of one's own. The reckoner: the first parts of a row of parts as one; a function that goes on from a new beginning, with new blocks alone. eval.Eval: what a program sends. eval.Eval: the rounds. draw.Path by the reckoner: pieces. draw.Path by the reckoner: the rounds. -/
import Derived.Maps.Own
import Derived.Carry
import Derived.Test.YtgjohjgmlleebaaGreatL05
import Derived.Test.YtgjohjgmlleebaaGreatL11
import Derived.Test.YtgjohjgmlleebaaGreatL10
namespace Rx
set_option linter.all false
open Go Go.RowKit

end Rx
namespace Bu
set_option linter.all false
open Rx Go

theorem dir_z {v : V3} (h : ObsOk (dirO v)) : ObsOk (u01O v.z) := ob_c (ob_h h) (ob_c (ob_h (ob_t h)) (ob_c (ob_h (ob_t (ob_t (ob_t (ob_t (ob_t (ob_t h))))))) ob_n))
end Bu
namespace Go.Proofs.YtgjohjgmlleebaaGreat
set_option linter.all false
open Go.RowKit Bu Rx

end Go.Proofs.YtgjohjgmlleebaaGreat
namespace Rx
set_option linter.all false
open Go Go.RowKit

def stO (P : Program) (E : ExtF) (O : OracleF) (n : Nat) (c : Code) (s : St) : St := match (run P E O n).2 c s with | some (_, s') => s' | none => s
def rnO (P : Program) (E : ExtF) (O : OracleF) (n : Nat) (ops : Array Oper) (l : List Oper) (s : St) : St := (runOps P E (run P E O n).1 ops l s).getD s
def opsOf : Code → Array Oper | .region _ ops _ => ops | _ => #[]
end Rx
namespace Go.Proofs.YtgjohjgmlleebaaGreat
set_option linter.all false
open Go.RowKit Bu Rx

def nodeS (k : Int) (f : Nat → F) : SV := .agg [.i .u8 k, .fl (f 0), .fl (f 1), .fl (f 2), .fl (f 3), .fl (f 4), .fl (f 5), .fl (f 6), .fl (f 7), .fl (f 8), .fl (f 9), .fl (f 10), .fl (f 11), .fl (f 12), .fl (f 13), .fl (f 14), .fl (f 15), .i .i64 0, .i .i64 0]
def kLk (o : SV → Obs) : List SV → Dec → Option (SV × Dec × Obs)
  | [x], ds => some (.i .i64 0, ds, o x)
  | _, _ => none
def kLf (g : SV → I × Int) (o : SV → Obs) : List SV → Dec → Option (SV × Dec × Obs)
  | [x], ds => some (.tup [.agg [.fl (g x).1.lo, .fl (g x).1.hi], .si .i64 (g x).2], ds, o x)
  | _, _ => none
structure Lfs where
  lk : SV → Obs
  g : SV → I × Int
  o : SV → Obs
/-- look, and the one method -/
noncomputable def OVl (L : Lfs) (m : Nat) : OracleF := lookO [(85, plainO (kLk L.lk)), (m, plainO (kLf L.g L.o))]
noncomputable def vC : Code := bodyOf Tryz.prog 142
noncomputable def vR0 : Code := seqL vC
noncomputable def vR1 : Code := seqL (seqR vC)
noncomputable def vX : Code := seqL (seqR (seqR vC))
noncomputable def vR5 : Code := seqL (seqR (seqR (seqR vC)))
noncomputable def vR6 : Code := seqL (seqR (seqR (seqR (seqR vC))))
section
variable (L : Lfs) (g : Nat) (k : Int) (f : Nat → F) (c : Int) (v u : V3) (r : Nat)
def vArgs : List SV := [nodeS k f, .si .i64 c, v.sv, u.sv]
noncomputable def vs0 : St := ⟨vArgs k f c v u ++ List.replicate 30 (.tup []), [], none, []⟩
noncomputable def vs1 : St := stO Tryz.prog EG (OVl L g) 60 vR0 (vs0 k f c v u)
noncomputable def vs2 : St := stO Tryz.prog EG (OVl L g) 60 vR1 (vs1 L g k f c v u)
noncomputable def vs3 : St := stO Tryz.prog EG (OVl L g) 60 vX (vs2 L g k f c v u)
noncomputable def vsM : St := ⟨putT (some 24) (.o (.map (some r))) (vs3 L g k f c v u).T, (vs3 L g k f c v u).M, (vs3 L g k f c v u).ds, (vs3 L g k f c v u).ob⟩
noncomputable def vs5 : St := rnO Tryz.prog EG (OVl L g) 60 (opsOf vR5) ((opsOf vR5).toList.drop 5) (vsM L g k f c v u r)
end
noncomputable def o5 (i : Nat) : Oper := (opsOf vR5).toList.getD i default
noncomputable def o6 (i : Nat) : Oper := (opsOf vR6).toList.getD i default
theorem l5 : (opsOf vR5).toList = o5 0 :: o5 1 :: o5 2 :: o5 3 :: o5 4 :: (opsOf vR5).toList.drop 5 := by kernel_rfl
theorem l6 : (opsOf vR6).toList = (opsOf vR6).toList.take 3 ++ o6 3 :: (opsOf vR6).toList.drop 4 := by kernel_rfl
theorem g5 : (o5 0).guard = none ∧ (o5 1).guard = none ∧ (o5 2).guard = none ∧ (o5 3).guard = none ∧ (o5 4).guard = none ∧ (o6 3).guard = none := ⟨by kernel_rfl, by kernel_rfl, by kernel_rfl, by kernel_rfl, by kernel_rfl, by kernel_rfl⟩
theorem d5 : (o5 0).dst = some 24 ∧ (o5 1).dst = none ∧ (o5 2).dst = none ∧ (o5 3).dst = none ∧ (o5 4).dst = none ∧ (o6 3).dst = some 29 := ⟨by kernel_rfl, by kernel_rfl, by kernel_rfl, by kernel_rfl, by kernel_rfl, by kernel_rfl⟩
theorem p5 : (o5 0).op = Op.makeMap 225 none ∧ (o5 1).op = Op.insert 225 (.tmp 24) (.const (.int .u8 1)) (.func 191) ∧ (o5 2).op = Op.insert 225 (.tmp 24) (.const (.int .u8 2)) (.func 192) ∧ (o5 3).op = Op.insert 225 (.tmp 24) (.const (.int .u8 3)) (.func 193) ∧ (o5 4).op = Op.insert 225 (.tmp 24) (.const (.int .u8 4)) (.func 194) ∧ (o6 3).op = Op.lookup 225 (.tmp 26) (.tmp 28) false := ⟨by kernel_rfl, by kernel_rfl, by kernel_rfl, by kernel_rfl, by kernel_rfl, by kernel_rfl⟩
attribute [irreducible] o5 o6 vC vR0 vR1 vX vR5 vR6
end Go.Proofs.YtgjohjgmlleebaaGreat
namespace Bu
set_option linter.all false
open Rx Go

def q3E (f b : Nat → F) (i : Nat) : Bool := decide ((f i).k = (b i).k) && (decide ((f (i + 1)).k = (b (i + 1)).k) && (decide ((f (i + 2)).k = (b (i + 2)).k) && true))
def eqNd (f b : Nat → F) : Bool := q3E f b 0 && (q3E f b 3 && (q3E f b 6 && (q3E f b 9 && (decide ((f 12).k = (b 12).k) && (decide ((f 13).k = (b 13).k) && (decide ((f 14).k = (b 14).k) && (decide ((f 15).k = (b 15).k) && ((0 : Int) == 0 && ((0 : Int) == 0 && true)))))))))
/-- but for the fields of a kind: 0 -/
def bare1 (f : Nat → F) (i : Nat) : F := bif Nat.blt i 3 then f i else z64
def bare2 (f : Nat → F) (i : Nat) : F := bif Nat.blt i 3 || Nat.beq i 12 then f i else z64
def bare3 (f : Nat → F) (i : Nat) : F := bif Nat.beq i 13 || Nat.beq i 14 then f i else z64
def bare4 (f : Nat → F) (i : Nat) : F := bif Nat.beq i 13 || (Nat.blt 5 i && Nat.blt i 12) then f i else z64
def rngO (x l h : F) (o : Obs) : Obs := (decide (h.k < x.k), false) :: (decide (x.k < l.k), false) :: o
def rtO1 (f : Nat → F) : Obs := (eqNd f (bare1 f), true) :: rngO (f 2) z64 one64 (rngO (f 1) z64 one64 (rngO (f 0) z64 one64 []))
def rtO2 (f : Nat → F) : Obs := (eqNd f (bare2 f), true) :: rngO (f 12) z64 one64 (rngO (f 2) z64 one64 (rngO (f 1) z64 one64 (rngO (f 0) z64 one64 [])))
def rtO3 (f : Nat → F) : Obs := (eqNd f (bare3 f), true) :: rngO (f 14) minIo four64 (rngO (f 13) minA one64 [])
def rtO4 (f : Nat → F) : Obs := (eqNd f (bare4 f), true) :: rngO (f 11) minMt maxMt (rngO (f 10) minMt maxMt (rngO (f 9) minMt maxMt (rngO (f 8) minMt maxMt (rngO (f 7) minMt maxMt (rngO (f 6) minMt maxMt (rngO (f 13) minA one64 []))))))
/-- a leaf that may be -/
def rtOb (k : Int) (f : Nat → F) : Obs := match k with
  | 1 => rtO1 f
  | 2 => rtO2 f
  | 3 => rtO3 f
  | 4 => rtO4 f
  | _ => [(false, true)]
end Bu
namespace Go.Proofs.YtgjohjgmlleebaaGreat
set_option linter.all false
open Go.RowKit Bu Rx

end Go.Proofs.YtgjohjgmlleebaaGreat
namespace Bu
set_option linter.all false
open Rx Go

def pF (x : F) : I := ⟨x, x⟩
end Bu
namespace Go.Proofs.YtgjohjgmlleebaaGreat
set_option linter.all false
open Go.RowKit Bu Rx

/-- a node, out of its cells -/
def ndF (a0 a1 a2 a3 a4 a5 a6 a7 a8 a9 a10 a11 a12 a13 a14 a15 : F) (i : Nat) : F := [a0, a1, a2, a3, a4, a5, a6, a7, a8, a9, a10, a11, a12, a13, a14, a15].getD i z64
end Go.Proofs.YtgjohjgmlleebaaGreat
namespace Bu
set_option linter.all false
open Rx Go

/-- a leaf: kind, numbers, channel, directions -/
structure Lf where
  k : Int
  f : Nat → F
  c : Int
  v : V3
  u : V3
end Bu
namespace Go.Proofs.YtgjohjgmlleebaaGreat
set_option linter.all false
open Go.RowKit Bu Rx

def etaF (f : Nat → F) : Nat → F := ndF (f 0) (f 1) (f 2) (f 3) (f 4) (f 5) (f 6) (f 7) (f 8) (f 9) (f 10) (f 11) (f 12) (f 13) (f 14) (f 15)
def lkOl (l : Lf) : Obs := dirO l.u ++ (dirO l.v ++ ([(decide (l.c < 3), true), (decide (0 ≤ l.c), true)] ++ rtOb l.k (etaF l.f)))
end Go.Proofs.YtgjohjgmlleebaaGreat
namespace Bu
set_option linter.all false
open Rx Go

end Bu
namespace Go.Proofs.YtgjohjgmlleebaaGreat
set_option linter.all false
open Go.RowKit Bu Rx

def chO (l : Lf) : Obs := [(decide (l.c < 3), true), (decide (0 ≤ l.c), true)]
def olL (l : Lf) : Obs := chO l ++ u01O (pF (l.f l.c.toNat))
def olO (l : Lf) : Obs := chO l ++ (bndO (pF (l.f l.c.toNat)) z64 one64 ++ (bndO (pF (l.f 12)) z64 one64 ++ (dirO l.v ++ dirO l.u)))
def olP (l : Lf) : Obs := glO l.v l.u (pF (l.f 13)) ++ bndO (pF (l.f 14)) minIo four64
def olM (l : Lf) : Obs := chO l ++ (glO l.v l.u (pF (l.f 13)) ++ (bndO (pF (l.f (6 + l.c.toNat))) minMt maxMt ++ bndO (pF (l.f (9 + l.c.toNat))) minMt maxMt))
end Go.Proofs.YtgjohjgmlleebaaGreat
namespace Go.Proofs.YtgjohjgmlleebaaGreat
set_option linter.all false
open Go.RowKit Bu Rx

section
variable (L : Lfs) (k : Int) (f : Nat → F) (c : Int) (v u : V3) (r : Nat)
end
def vlO (l : Lf) : Obs := lkOl l ++ match l.k with
  | 1 => olL l
  | 2 => olO l
  | 3 => olP l
  | 4 => olM l
  | _ => [(false, true)]
end Go.Proofs.YtgjohjgmlleebaaGreat
namespace Go.Proofs.YtgjohjgmlleebaaGreat
set_option linter.all false
open Go.RowKit Bu Rx

def dnO4 (l : Lf) : Obs := lkOl l ++ match l.k with
  | 1 => u01O l.v.z
  | 2 => u01O l.v.z
  | 3 => glO l.v l.u (pF (l.f 13))
  | 4 => glO l.v l.u (pF (l.f 13))
  | _ => [(false, true)]
end Go.Proofs.YtgjohjgmlleebaaGreat
namespace Bu
set_option linter.all false
open Rx Go

structure U8 where
  a0 : Int
  a1 : Int
  a2 : Int
  a3 : Int
  a4 : Int
  a5 : Int
  a6 : Int
  a7 : Int
structure U6 where
  a0 : Int
  a1 : Int
  a2 : Int
  a3 : Int
  a4 : Int
  a5 : Int
def U8.sv (u : U8) : SV := .agg [.si .u32 u.a0, .si .u32 u.a1, .si .u32 u.a2, .si .u32 u.a3, .si .u32 u.a4, .si .u32 u.a5, .si .u32 u.a6, .si .u32 u.a7]
def U6.sv (u : U6) : SV := .agg [.si .u32 u.a0, .si .u32 u.a1, .si .u32 u.a2, .si .u32 u.a3, .si .u32 u.a4, .si .u32 u.a5]
def U8.ok (u : U8) : Bool := wN32 u.a0 && (wN32 u.a1 && (wN32 u.a2 && (wN32 u.a3 && (wN32 u.a4 && (wN32 u.a5 && (wN32 u.a6 && wN32 u.a7))))))
def U6.ok (u : U6) : Bool := wN32 u.a0 && (wN32 u.a1 && (wN32 u.a2 && (wN32 u.a3 && (wN32 u.a4 && wN32 u.a5))))
abbrev Bw := F → F → Int → F
/-- the cells of a node -/
def ndL (a0 a1 a2 a3 a4 a5 a6 a7 a8 a9 a10 a11 a12 a13 a14 a15 : F) (i : Nat) : F := [a0, a1, a2, a3, a4, a5, a6, a7, a8, a9, a10, a11, a12, a13, a14, a15].getD i z64
def leF1 (b : Bw) (u : U8) : Nat → F := ndL (b z64 one64 u.a1) (b z64 one64 u.a2) (b z64 one64 u.a3) z64 z64 z64 z64 z64 z64 z64 z64 z64 z64 z64 z64 z64
def leF2 (b : Bw) (u : U8) : Nat → F := ndL (b z64 one64 u.a1) (b z64 one64 u.a2) (b z64 one64 u.a3) z64 z64 z64 z64 z64 z64 z64 z64 z64 (b z64 one64 u.a4) z64 z64 z64
def leF3 (b : Bw) (u : U8) : Nat → F := ndL z64 z64 z64 z64 z64 z64 z64 z64 z64 z64 z64 z64 z64 (b minA one64 u.a1) (b minIo four64 u.a2) z64
def leF4 (b : Bw) (u : U8) : Nat → F := ndL z64 z64 z64 z64 z64 z64 (b minMt maxMt u.a2) (b minMt maxMt u.a3) (b minMt maxMt u.a4) (b minMt maxMt u.a5) (b minMt maxMt u.a6) (b minMt maxMt u.a7) z64 (b minA one64 u.a1) z64 z64
def leK (u : U8) : Int := bif decide (u.a0.tmod 4 = 0) then 1 else bif decide (u.a0.tmod 4 = 1) then 2 else bif decide (u.a0.tmod 4 = 2) then 3 else 4
def leF (b : Bw) (u : U8) : Nat → F := bif decide (u.a0.tmod 4 = 0) then leF1 b u else bif decide (u.a0.tmod 4 = 1) then leF2 b u else bif decide (u.a0.tmod 4 = 2) then leF3 b u else leF4 b u
theorem rk_p : pairB z64 one64 = true ∧ pairB minA one64 = true ∧ pairB minIo four64 = true ∧ pairB minMt maxMt = true ∧ pairB mone64 one64 = true ∧ pairB d64 one64 = true := by decide +kernel
theorem rk_le : z64.k ≤ one64.k ∧ minA.k ≤ one64.k ∧ minIo.k ≤ four64.k ∧ minMt.k ≤ maxMt.k := by decide +kernel
theorem le_kind (u : U8) : leK u = 1 ∨ leK u = 2 ∨ leK u = 3 ∨ leK u = 4 := by
  unfold leK
  cases decide (u.a0.tmod 4 = 0) <;> cases decide (u.a0.tmod 4 = 1) <;> cases decide (u.a0.tmod 4 = 2) <;> simp
/-- a node whose kind is told by numbers -/
def nodeZ (k : Int) (f : Nat → F) : SV := .agg [.si .u8 k, .fl (f 0), .fl (f 1), .fl (f 2), .fl (f 3), .fl (f 4), .fl (f 5), .fl (f 6), .fl (f 7), .fl (f 8), .fl (f 9), .fl (f 10), .fl (f 11), .fl (f 12), .fl (f 13), .fl (f 14), .fl (f 15), .i .i64 0, .i .i64 0]
def kLe (k : U8 → Int) (f : U8 → Nat → F) (o : U8 → Bool) : List SV → Dec → Option (SV × Dec × Obs)
  | [.agg [.si .u32 a0, .si .u32 a1, .si .u32 a2, .si .u32 a3, .si .u32 a4, .si .u32 a5, .si .u32 a6, .si .u32 a7]], ds => some (nodeZ (k ⟨a0, a1, a2, a3, a4, a5, a6, a7⟩) (f ⟨a0, a1, a2, a3, a4, a5, a6, a7⟩), ds, [(o ⟨a0, a1, a2, a3, a4, a5, a6, a7⟩, true)])
  | _, _ => none
theorem e64_q : d64.q = 1 / 64 := by have : d64.q * 64 = 1 := q_of' (n := 1) (s := 6) (by decide +kernel) rfl; grind
theorem bwN1 {n : Int} : N1 (bwF mone64 one64 n) := by
  have h := bwF_in (a := mone64) (b := one64) (n := n) (q_le.1 (by rw [mone_q, one_q]; grind))
  have a := q_le.2 h.1; have b := q_le.2 h.2
  rw [mone_q] at a; rw [one_q] at b
  exact ⟨a, b⟩
theorem bwN2 {n : Int} : 1 / 64 ≤ (bwF d64 one64 n).q ∧ (bwF d64 one64 n).q ≤ 1 := by
  have h := bwF_in (a := d64) (b := one64) (n := n) (q_le.1 (by rw [e64_q, one_q]; grind))
  have a := q_le.2 h.1; have b := q_le.2 h.2
  rw [e64_q] at a; rw [one_q] at b
  exact ⟨a, b⟩
/-- a part of 2^32 - 1 -/
def kFq (f : Int → F) (u : Int → Bool) : List SV → Dec → Option (SV × Dec × Obs)
  | [x], ds => match intS x with
    | some (.u32, n) => some (.fl (f n), ds, [(u n, true)])
    | _ => none
  | _, _ => none
end Bu
namespace Go.Proofs.YtgjohjgmlleebaaGreat
set_option linter.all false
open Go.RowKit Bu Rx

def OLe (b : Bw) (p : F → F → Bool) (w : Int → Bool) : OracleF := lookO [(19, plainO (kBw b p w))]
def bO (p : F → F → Bool) (w : Int → Bool) (l h : F) (n : Int) (o : Obs) : Obs := (p l h, true) :: (w n, true) :: o
/-- the array stands as it stood -/
def sO (u : U8) : Obs := [(decide (u.a0 = u.a0), true), (decide (u.a1 = u.a1), true), (decide (u.a2 = u.a2), true), (decide (u.a3 = u.a3), true), (decide (u.a4 = u.a4), true), (decide (u.a5 = u.a5), true), (decide (u.a6 = u.a6), true), (decide (u.a7 = u.a7), true)]
theorem sO_ok {u : U8} {o : Obs} (h : ObsOk o) : ObsOk (sO u ++ o) := ob_a (ob_c (decide_eq_true rfl) (ob_c (decide_eq_true rfl) (ob_c (decide_eq_true rfl) (ob_c (decide_eq_true rfl) (ob_c (decide_eq_true rfl) (ob_c (decide_eq_true rfl) (ob_c (decide_eq_true rfl) (ob_c (decide_eq_true rfl) ob_n)))))))) h
def leD (u : U8) (i : Int) (b : Bool) : Bool × Bool := (decide (u.a0.tmod 4 = i), b)
theorem leRun1 (b : Bw) (p : F → F → Bool) (w : Int → Bool) (u : U8) : valR ((run Tryz.prog EG (OLe b p w) 80).1 22 [u.sv] [] (some [true])) = some (nodeS 1 (leF1 b u), some [], sO u ++ bO p w z64 one64 u.a3 (bO p w z64 one64 u.a2 (bO p w z64 one64 u.a1 [leD u 0 true]))) := by kernel_rfl
theorem leRun2 (b : Bw) (p : F → F → Bool) (w : Int → Bool) (u : U8) : valR ((run Tryz.prog EG (OLe b p w) 80).1 22 [u.sv] [] (some [false, true])) = some (nodeS 2 (leF2 b u), some [], bO p w z64 one64 u.a4 (sO u ++ bO p w z64 one64 u.a3 (bO p w z64 one64 u.a2 (bO p w z64 one64 u.a1 [leD u 1 true, leD u 0 false])))) := by kernel_rfl
theorem leRun3 (b : Bw) (p : F → F → Bool) (w : Int → Bool) (u : U8) : valR ((run Tryz.prog EG (OLe b p w) 80).1 22 [u.sv] [] (some [false, false, true])) = some (nodeS 3 (leF3 b u), some [], bO p w minIo four64 u.a2 (bO p w minA one64 u.a1 [leD u 2 true, leD u 1 false, leD u 0 false])) := by kernel_rfl
theorem leRun4 (b : Bw) (p : F → F → Bool) (w : Int → Bool) (u : U8) : valR ((run Tryz.prog EG (OLe b p w) 80).1 22 [u.sv] [] (some [false, false, false])) = some (nodeS 4 (leF4 b u), some [], sO u ++ bO p w minMt maxMt u.a7 (bO p w minMt maxMt u.a6 (bO p w minMt maxMt u.a5 (sO u ++ bO p w minMt maxMt u.a4 (bO p w minMt maxMt u.a3 (bO p w minMt maxMt u.a2 (bO p w minA one64 u.a1 [leD u 2 false, leD u 1 false, leD u 0 false]))))))) := by kernel_rfl
theorem oracleLe : OracleOk Tryz.prog (OLe bwF pairB wN32) := .cons bwG.of (.nil _)
def nodeV (k : Int) (f : Nat → F) : Value := .agg #[.int .u8 k, .float .f64 (f 0).b, .float .f64 (f 1).b, .float .f64 (f 2).b, .float .f64 (f 3).b, .float .f64 (f 4).b, .float .f64 (f 5).b, .float .f64 (f 6).b, .float .f64 (f 7).b, .float .f64 (f 8).b, .float .f64 (f 9).b, .float .f64 (f 10).b, .float .f64 (f 11).b, .float .f64 (f 12).b, .float .f64 (f 13).b, .float .f64 (f 14).b, .float .f64 (f 15).b, .int .i64 0, .int .i64 0]
theorem nd_pl (k : Int) (f : Nat → F) : plain (nodeS k f) = some (nodeV k f) ∧ plain (nodeZ k f) = some (nodeV k f) := ⟨rfl, rfl⟩
theorem leG : PlainOk Tryz.prog 22 (kLe leK (leF bwF) U8.ok) := by
  intro args ds x ds' ob h ho
  unfold kLe at h
  split at h
  · rename_i a0 a1 a2 a3 a4 a5 a6 a7
    simp only [Option.some.injEq, Prod.mk.injEq] at h
    obtain ⟨rfl, _, rfl⟩ := h
    generalize hu : (⟨a0, a1, a2, a3, a4, a5, a6, a7⟩ : U8) = u at *
    have e : (.agg [.si .u32 a0, .si .u32 a1, .si .u32 a2, .si .u32 a3, .si .u32 a4, .si .u32 a5, .si .u32 a6, .si .u32 a7] : SV) = u.sv := by subst hu; rfl
    rw [e]
    have k : u.ok = true := ob_h ho
    unfold U8.ok at k
    simp only [Bool.and_eq_true] at k
    obtain ⟨k0, k1, k2, k3, k4, k5, k6, k7⟩ := k
    obtain ⟨p1, p2, p3, p4, _⟩ := rk_p
    have bo : ∀ {l h : F} {n : Int} {o : Obs}, pairB l h = true → wN32 n = true → ObsOk o → ObsOk (bO pairB wN32 l h n o) := fun a b c => ob_c a (ob_c b c)
    refine ⟨[.agg #[.int .u32 u.a0, .int .u32 u.a1, .int .u32 u.a2, .int .u32 u.a3, .int .u32 u.a4, .int .u32 u.a5, .int .u32 u.a6, .int .u32 u.a7]], _, rfl, (nd_pl _ _).2, fun w => ?_⟩
    have r1 := leRun1 bwF pairB wN32 u
    have r2 := leRun2 bwF pairB wN32 u
    have r3 := leRun3 bwF pairB wN32 u
    have r4 := leRun4 bwF pairB wN32 u
    unfold leD at r1 r2 r3 r4
    unfold leK leF
    cases c0 : decide (u.a0.tmod 4 = 0) <;> rw [c0] at r1 r2 r3 r4
    · cases c1 : decide (u.a0.tmod 4 = 1) <;> rw [c1] at r2 r3 r4
      · cases c2 : decide (u.a0.tmod 4 = 2) <;> rw [c2] at r3 r4
        · exact calls_of_val goodG oracleLe 80 r4 (sO_ok (bo p4 k7 (bo p4 k6 (bo p4 k5 (sO_ok (bo p4 k4 (bo p4 k3 (bo p4 k2 (bo p2 k1 (ob_c rfl (ob_c rfl (ob_c rfl ob_n)))))))))))) rfl (nd_pl _ _).1 w
        · exact calls_of_val goodG oracleLe 80 r3 (bo p3 k2 (bo p2 k1 (ob_c rfl (ob_c rfl (ob_c rfl ob_n))))) rfl (nd_pl _ _).1 w
      · exact calls_of_val goodG oracleLe 80 r2 (bo p1 k4 (sO_ok (bo p1 k3 (bo p1 k2 (bo p1 k1 (ob_c rfl (ob_c rfl ob_n))))))) rfl (nd_pl _ _).1 w
    · exact calls_of_val goodG oracleLe 80 r1 (sO_ok (bo p1 k3 (bo p1 k2 (bo p1 k1 (ob_c rfl ob_n))))) rfl (nd_pl _ _).1 w
  · cases h
theorem frqRun (n : Int) : valR ((run Tryz.prog EG OIM 80).1 25 [.si .u32 n] [] (some [])) = some (.fl (frT n), some [], so (fdv (toF (FloatKind.f64.nearest n)) cN32) ++ [(rightB (FloatKind.f64.nearest n), true)]) := by kernel_rfl
theorem frqG : PlainOk Tryz.prog 25 (kFq frT wN32) := by
  intro args ds x ds' ob h ho
  unfold kFq at h
  split at h
  · rename_i u
    split at h
    · rename_i n hk
      simp only [Option.some.injEq, Prod.mk.injEq] at h; obtain ⟨rfl, _, rfl⟩ := h
      obtain ⟨t, e, _, _, hr⟩ := frT_ok (ob_h ho)
      exact ⟨[.int .u32 n], _, plains_cons (intS_plain hk) plains_nil, rfl, fun w => calls_of_val goodG oracleIM 80 (frqRun n) (ob_a (ObsOk.of_B (so_ok e).1) (ob_c hr ob_n)) rfl rfl w⟩
    · cases h
  · cases h
end Go.Proofs.YtgjohjgmlleebaaGreat
namespace Bu
set_option linter.all false
open Rx Go

/-- a chance -/
structure Ch where
  p : I
  m : I
def Ch.cells (c : Ch) : List SV := [.fl c.p.lo, .fl c.p.hi, .fl c.m.lo, .fl c.m.hi]
def Ch.sv (c : Ch) : SV := .agg c.cells
def Ch.zero : Ch := ⟨⟨F.zero, F.zero⟩, ⟨F.zero, F.zero⟩⟩
def chAt (cs : List SV) (o : Nat) : Ch := ⟨⟨flAt cs o, flAt cs (o + 1)⟩, ⟨flAt cs (o + 2), flAt cs (o + 3)⟩⟩
/-- what chances are made of -/
structure Nde where
  K : Kk
  D : I → I → I × Int
  dO : I → I → Obs
  g : Lf → I × Int
  go : Lf → Obs
/-- between two -/
def mixK (K : Kk) (e : Int) (w : F) (a b : I) : I × Int :=
  let q1 := K.num e one_
  let q2 := K.num q1.2 w
  let s := K.sub q2.2 q1.1 q2.1
  let m1 := K.mul s.2 s.1 a
  let q3 := K.num m1.2 w
  let m2 := K.mul q3.2 q3.1 b
  K.add m2.2 m1.1 m2.1
end Bu
namespace Go.Proofs.YtgjohjgmlleebaaGreat
set_option linter.all false
open Go.RowKit Bu Rx

end Go.Proofs.YtgjohjgmlleebaaGreat
namespace Bu
set_option linter.all false
open Rx Go

/-- chances one after the other, out of those ahead -/
def chL (f : (Nat → Ch) → Nat → Ch × Int) : Nat → List Ch
  | 0 => []
  | n + 1 => chL f n ++ [(f (fun j => (chL f n).getD j Ch.zero) n).1]
def mixC (K : Kk) (w : F) (a b : Ch) : Ch × Int :=
  (⟨(mixK K 0 w a.p b.p).1, (mixK K (mixK K 0 w a.p b.p).2 w a.m b.m).1⟩, (mixK K (mixK K 0 w a.p b.p).2 w a.m b.m).2)
def obsB (o : Obs) : Bool := o.all fun p => p.1 == p.2
theorem obsB_ok {o : Obs} (h : obsB o = true) : ObsOk o := fun p hp => by
  have := List.all_eq_true.1 h p hp
  simpa using this
theorem set_get {l : List SV} {off k : Nat} {x : SV} (h : off < l.length) : (l.set off x)[k]? = if k = off then some x else l[k]? := by
  rw [List.getElem?_set]
  by_cases e : off = k
  · subst e; simp [h]
  · rw [if_neg e, if_neg (fun h => e h.symm)]
theorem putRow_get : ∀ {l cells : List SV} {off k : Nat}, off + l.length ≤ cells.length → (putRow cells off l)[k]? = if off ≤ k ∧ k < off + l.length then l[k - off]? else cells[k]?
  | [], cells, off, k, _ => by
    unfold putRow
    rw [if_neg (by simp)]
  | x :: l, cells, off, k, h => by
    simp only [List.length_cons] at h
    unfold putRow
    rw [putRow_get (by rw [List.length_set]; omega), set_get (by omega)]
    simp only [List.length_cons]
    by_cases h1 : k = off
    · subst h1
      rw [if_neg (by omega), if_pos rfl, if_pos (by omega)]; simp
    · by_cases h2 : off + 1 ≤ k ∧ k < off + 1 + l.length
      · rw [if_pos h2, if_pos (by omega), show k - off = (k - (off + 1)) + 1 by omega]; simp
      · rw [if_neg h2, if_neg h1, if_neg (by omega)]
structure ChRow (c : Nat → Ch) (len i : Nat) (lc : List SV) : Prop where
  l : lc.length = len * 4
  d : idsLts 0 lc = true
  c : ∀ j, j < i → CellsAt lc (j * 4) (c j).cells
theorem CellsAt.of {cells cs : List SV} {off : Nat} (h : ∀ j, j < cs.length → cells[off + j]? = cs[j]?) : CellsAt cells off cs := fun j x hx => by
  rw [h j (List.getElem?_eq_some_iff.1 hx).1]; exact hx
theorem ChRow.next {c : Nat → Ch} {len i : Nat} {lc : List SV} (h : ChRow c len i lc) (hi : i < len) : ChRow c len (i + 1) (putRow lc (i * 4) (c i).cells) := by
  have hl : (c i).cells.length = 4 := rfl
  have hb : i * 4 + (c i).cells.length ≤ lc.length := by rw [h.l, hl]; omega
  refine ⟨by rw [putRow_length]; exact h.l, idsLts_put h.d rfl, fun j hj => CellsAt.of fun k hk => ?_⟩
  have hlj : (c j).cells.length = 4 := rfl
  rw [putRow_get hb]
  rcases Nat.lt_or_ge j i with h1 | h1
  · rw [if_neg (by rw [hl]; omega)]
    have h2 : (c j).cells[k]? = some (c j).cells[k] := List.getElem?_eq_getElem hk
    rw [h2]; exact h.c j h1 k _ h2
  · have : j = i := by omega
    subst this
    rw [if_pos (by omega), show j * 4 + k - j * 4 = k by omega]
def chCK : List CK := [.f, .f, .f, .f]
theorem ch_at {lc : List SV} {o : Nat} {c : Ch} (h : CellsAt lc o c.cells) : chAt lc o = c ∧ ckAll lc o chCK = true := by
  have h0 := h 0 _ rfl
  have h1 := h 1 _ rfl
  have h2 := h 2 _ rfl
  have h3 := h 3 _ rfl
  rw [Nat.add_zero] at h0
  refine ⟨?_, ?_⟩
  · unfold chAt flAt; rw [h0, h1, h2, h3]
  · unfold chCK ckAll ckAll ckAll ckAll ckAll ckOk
    rw [show o + 1 + 1 = o + 2 from rfl, show o + 2 + 1 = o + 3 from rfl, h0, h1, h2, h3]; rfl
end Bu
namespace Rx
set_option linter.all false
open Go Go.RowKit

mutual
/-- no row of one's own -/
def noOsl : SV → Bool
  | .osl _ _ _ => false
  | .fn _ a b => noOsls a && noOsls b
  | .agg l => noOsls l
  | .tup l => noOsls l
  | _ => true
def noOsls : List SV → Bool
  | [] => true
  | x :: l => noOsl x && noOsls l
end
mutual
theorem den_cap {m m2 : Nms} (hf : ∀ n, m2 n = m n) : ∀ {x : SV}, noOsl x = true → den m2 x = den m x
  | .b _, _ => by simp only [den]
  | .i _ _, _ => by simp only [den]
  | .si _ _, _ => by simp only [den]
  | .f _, _ => by simp only [den]
  | .fl _, _ => by simp only [den]
  | .np, _ => by simp only [den]
  | .o _, _ => by simp only [den]
  | .p n off, _ => by simp only [den, hf]
  | .sp n off, _ => by simp only [den, hf]
  | .sl n off len cap, _ => by simp only [den, hf]
  | .ssl n off len cap, _ => by simp only [den, hf]
  | .osl y n len, h => by simp [noOsl] at h
  | .fn f first cap, h => by
    simp only [noOsl, Bool.and_eq_true] at h
    simp only [den, dens_cap hf h.1, dens_cap hf h.2]
  | .agg l, h => by
    simp only [noOsl] at h
    simp only [den, dens_cap hf h]
  | .tup l, h => by
    simp only [noOsl] at h
    simp only [den, dens_cap hf h]
theorem dens_cap {m m2 : Nms} (hf : ∀ n, m2 n = m n) : ∀ {l : List SV}, noOsls l = true → dens m2 l = dens m l
  | [], _ => by simp only [dens]
  | x :: l, h => by
    simp only [noOsls, Bool.and_eq_true] at h
    unfold dens
    rw [den_cap hf h.1, dens_cap hf h.2]
end
theorem dens_put1 {m : Nms} {T : List SV} {vs : List Value} {i : Nat} {x y : SV} (h : dens m T = some vs) (hi : T[i]? = some x) (he : den m y = den m x) : dens m (T.set i y) = some vs := by
  induction T generalizing vs i with
  | nil => simp at hi
  | cons a l ih =>
    obtain ⟨u, us, h1, h2, rfl⟩ := dens_cons_some.1 h
    cases i with
    | zero =>
      simp at hi
      subst hi
      simp only [List.set_cons_zero]
      exact dens_cons (by rw [he]; exact h1) h2
    | succ i =>
      simp at hi
      simp only [List.set_cons_succ]
      exact dens_cons h1 (ih h2 hi)
theorem RunsB.own {P : Program} {B : Bs} {c : Code} {s t : St} {ex : Ex} {n L size i : Nat} {e : TypeId} {cells : List SV} (h : RunsB P B c s ex (fun u => u = t)) (hn : B.M.length ≤ n)
    (hb : t.M[n]? = some ⟨e, cells, .ex⟩) (hcl : cells.length = L * size) (hL : L ≤ maxLen) (hx : ∀ b ∈ t.M, b.exact = true ∧ idsLts 0 b.cells = true)
    (hT : t.T[i]? = some (.sl n 0 L L)) (hno : noOsls t.T = true) : RunsB P B c s ex (fun u => u = ⟨t.T.set i (.osl true n L), t.M.set n ⟨e, cells, .rown size⟩, t.ds, t.ob⟩) := by
  intro m a w Q hs hg hq
  refine h m a w Q hs hg fun t' m' a' w' h1 hst hg' => ?_
  subst h1
  obtain ⟨r, hr, hat⟩ := hst.mem.blk n _ hb
  have hlv : ∀ {j q}, m' j = some q → liveM t'.M j := fun {j q} hj => by
    have hl := hst.mem.dom j q hj
    refine ⟨t'.M[j], List.getElem?_eq_getElem hl, ?_⟩
    have := (hx _ (List.getElem_mem hl)).1
    generalize t'.M[j] = b at this
    obtain ⟨e', cs', k'⟩ := b
    cases k' <;> first | rfl | cases this
  have huni : ∀ {j}, m' j = some r → j = n := fun {j} hj => hst.mem.inj j n r (hlv hj) (hlv hr) hj hr
  have hf : ∀ j, (⟨m'.f, fun q => if q = r then L else m'.c q⟩ : Nms) j = m' j := fun _ => rfl
  obtain ⟨cv, hd, hh⟩ := hat.ex
  have hid : idsLts 0 cells = true := (hx _ (List.mem_of_getElem? hb)).2
  have hnl : n < t'.M.length := (List.getElem?_eq_some_iff.1 hb).1
  have hcv : cv.length = cells.length := dens_length hd
  refine hq _ ⟨m'.f, fun q => if q = r then L else m'.c q⟩ a' w' rfl ⟨?_, hst.df, ⟨⟨fun j q hj => hst.mem.ok.lt j q hj⟩, fun j j' q l1 l2 h1 h2 => hst.mem.inj j j' q (hlv h1) (hlv h2) h1 h2, fun j b hj => ?_, fun j q hj => ?_⟩⟩ ?_
  · have h0 := hst.tm
    rw [← dens_cap hf hno] at h0
    refine dens_put1 h0 hT ?_
    have hr' : m'.f n = some r := hr
    simp only [den, hr', Option.map_some, Option.bind_some]
    rw [if_pos trivial]
    exact oslV_some.2 ⟨Nat.le_refl _, rfl⟩
  · have hj0 : (t'.M.set n ⟨e, cells, .rown size⟩)[j]? = some b := hj
    rw [List.getElem?_set] at hj0
    split at hj0
    · rename_i e1
      subst e1
      simp only [Option.some.injEq] at hj0
      subst hj0
      refine ⟨r, hr, fun _ => ⟨cv, [], ?_, by simpa [BK.z] using hh, ⟨⟨?_, ?_⟩, hid⟩⟩⟩
      · rw [← hd]; exact dens_nums hid
      · show (cv ++ []).length = (if r = r then L else _) * size
        rw [if_pos rfl, List.append_nil, hcv, hcl]
      · show (if r = r then L else _) ≤ maxLen
        rw [if_pos rfl]; exact hL
    · rename_i e1
      obtain ⟨q, hq1, hat1⟩ := hst.mem.blk j b hj0
      refine ⟨q, hq1, fun hl => ?_⟩
      obtain ⟨cv1, sp1, d1, hh1, k1⟩ := hat1 hl
      have hbx := hx b (List.mem_of_getElem? hj0)
      refine ⟨cv1, sp1, by rw [← d1]; exact dens_nums hbx.2, hh1, ?_⟩
      obtain ⟨e', cs', k'⟩ := b
      cases k' <;> first | exact k1 | cases hbx.1
  · show j < (t'.M.set n _).length
    rw [List.length_set]; exact hst.mem.dom j q hj
  · refine ⟨⟨hg'.ext.n, fun j q hj => ?_⟩, hg'.fr, hg'.new, fun j q hj hl => hg'.dd j q hj (hlv (hg'.ext.n j q hj))⟩
    show (if q = r then L else m'.c q) = _
    rw [if_neg ?_]
    · exact hg'.ext.c j q hj
    · intro e1
      subst e1
      have e2 := huni (hg'.ext.n j q hj)
      have := B.mem.dom j q hj
      omega
end Rx
namespace Rx
set_option linter.all false
open Go Go.RowKit
/-- what comes behind the first parts -/
def post : Nat → Code → Code
  | 0, c => c
  | k + 1, .seq _ b => post k b
  | _ + 1, c => c
/-- the first parts, one after the other -/
def runN (P : Program) (E : ExtF) (O : OracleF) (n : Nat) : Nat → Code → St → Option St
  | 0, _, s => some s
  | k + 1, .seq a b, s => match (run P E O n).2 a s with
    | some (.normal, s') => runN P E O n k b s'
    | _ => none
  | _ + 1, _, _ => none
def aftN (P : Program) (E : ExtF) (O : OracleF) (n k : Nat) (c : Code) (s : St) : St := match runN P E O n k c s with
  | some s' => s'
  | none => s
def LandsN (P : Program) (E : ExtF) (O : OracleF) (n k : Nat) (c : Code) (s : St) : Prop := runN P E O n k c s = some (aftN P E O n k c s)
section
variable {P : Program} {E : ExtF} {O : OracleF} {B : Bs}
theorem runN_suf (hP : Good P E) (hO : OracleOk P O) {n : Nat} : ∀ {k : Nat} {c : Code} {s t : St}, runN P E O n k c s = some t → Suf s.ob t.ob
  | 0, c, s, t, h => by
    simp only [runN, Option.some.injEq] at h; subst h; exact Suf.refl _
  | k + 1, c, s, t, h => by
    cases c with
    | seq a b =>
      unfold runN at h
      split at h
      · rename_i s' h1
        exact ((run_ok hP hO n).2.1 _ _ _ _ h1).1.trans (runN_suf hP hO h)
      · cases h
    | _ => cases h
theorem runN_ok (hP : Good P E) (hO : OracleOk P O) {n : Nat} {ex : Ex} {Φ : St → Prop} : ∀ {k : Nat} {c : Code} {s t : St}, runN P E O n k c s = some t → ObsOk t.ob → RunsB P B (post k c) t ex Φ → RunsB P B c s ex Φ
  | 0, c, s, t, h, _, g => by
    simp only [runN, Option.some.injEq] at h; subst h; exact g
  | k + 1, c, s, t, h, ho, g => by
    cases c with
    | seq a b =>
      unfold runN at h
      split at h
      · rename_i s' h1
        have h2 : ObsOk s'.ob := (runN_suf hP hO h).ok ho
        exact RunsB.seq (RunsP.bs (RunsP.of (RunsTo.of hP hO h1 h2))) fun u hu => by subst hu; exact runN_ok hP hO h ho g
      · cases h
    | _ => cases h
theorem LandsN.ok (hP : Good P E) (hO : OracleOk P O) {n k : Nat} {c : Code} {s : St} {ex : Ex} {Φ : St → Prop} (h : LandsN P E O n k c s) (ho : ObsOk (aftN P E O n k c s).ob) (g : RunsB P B (post k c) (aftN P E O n k c s) ex Φ) : RunsB P B c s ex Φ := runN_ok hP hO h ho g
/-- a part that ends with nothing changed of what was there at the beginning -/
def RunsW (P : Program) (B : Bs) (c : Code) (s : St) (ex : Ex) (Φ : St → Prop) : Prop :=
  ∀ m a w (Q : Exit → Act → World → Prop), StAt m s a w → Goes B.m B.M B.w m s.M w → (∀ s' m' a' w', Φ s' → StAt m' s' a' w' → Below B.w.heap.size B.w w' → Q (exOf ex) a' w') → c.wp P Q a w
theorem RunsW.seq {c d : Code} {s : St} {ex : Ex} {Φ Ψ : St → Prop} (h : RunsB P B c s .normal Φ) (k : ∀ t, Φ t → RunsW P B d t ex Ψ) : RunsW P B (.seq c d) s ex Ψ := by
  intro m a w Q hs hg hq
  refine wp_seq (h m a w _ hs hg fun s1 m' a' w' h1 hs' hg' => ?_)
  exact k s1 h1 m' a' w' Q hs' hg' hq
/-- from here on only new blocks count -/
theorem RunsW.fresh {c : Code} {s : St} {ex : Ex} {Φ : St → Prop} {rest M' : List Blk} {ids : List Nat} (hx : ∀ b ∈ B.M, b.exact = true) (hs : s.M = B.M ++ rest) (hn : nodupB ids = true) (hM : selM s.M ids = some M') (hk : ∀ (j n : Nat), ids[j]? = some n → B.M.length ≤ n) (hlv : ∀ b ∈ M', b.live = true)
    (h : ∀ (B' : Bs) v, B'.M = M' → RunsB P B' c (s.sel ids M' v) ex Φ) : RunsW P B c s ex Φ := by
  intro m a w Q hst hg hq
  have hst' := hst.sel hn hM
  have hb1 : Below B.w.heap.size B.w w := Goes.reads hx B.mem (by rw [← hs]; exact hg) (by rw [← hs]; exact hst.mem)
  refine h ⟨m.sel ids, M', w, hst'.mem⟩ _ rfl (m.sel ids) a w Q hst' (Goes.refl _ _ _) fun s' m' a' w' h1 h2 hg' => ?_
  refine hq s' m' a' w' h1 h2 (hb1.trans ⟨hg'.fr.os, hg'.fr.tape, hg'.fr.output, hg'.fr.size, fun r hr => ?_⟩)
  refine hg'.fr.block r (Nat.lt_of_lt_of_le hr hb1.size) fun ⟨j, hj, _⟩ => ?_
  obtain ⟨n, h3, h4⟩ := sel_inv hj
  have hkj := hk j n h3
  rcases hg.new n r h4 with h5 | h5 | ⟨q, h5, b, h6, h7⟩
  · have := B.mem.dom n r h5
    omega
  · omega
  · have h8 := B.mem.dom q r h5
    have hj' : j < M'.length := by
      rw [(selM_get hM).1]
      exact (List.getElem?_eq_some_iff.1 h3).1
    obtain ⟨n2, b2, cs, g1, g2, _, g4⟩ := (selM_get hM).2 j M'[j] (List.getElem?_eq_getElem hj')
    rw [h3] at g1
    cases g1
    have g5 := hlv _ (List.getElem_mem hj')
    rw [g4] at g5
    have e := hst.mem.inj n q r ⟨b2, g2, g5⟩ ⟨b, by rw [hs, List.getElem?_append_left h8]; exact h6, h7⟩ h4 (hg.ext.n q r h5)
    omega
theorem RunsW.call {g : FuncId} {fn : Func} {c : Code} {args : List SV} {M : List Blk} {d : Dec} {x : SV} {v : Value} (hg : P.funcs[g]? = some fn) (hb : fn.body = some c) (hx : plain x = some v) {m : Nms} {w : World} {vs : List Value} (hvs : dens m args = some vs) (hM : MemAt m w M)
    (h : RunsW P ⟨m, M, w, hM⟩ c ⟨args ++ List.replicate (fn.ntmps - args.length) (.tup []), M, d, []⟩ .ret (fun t => resultS P fn t = some x)) :
    Calls P g vs.toArray w fun e w' => e = .returned v ∧ Below w.heap.size w w' := by
  have hl := dens_length hvs
  refine calls_of_wp hg hb ?_
  have htm : dens m (args ++ List.replicate (fn.ntmps - args.length) (.tup [])) = some (vs.toArray ++ Array.replicate (fn.ntmps - vs.toArray.size) undef).toList := by
    have := dens_append hvs (dens_replicate (undef_den m) (fn.ntmps - args.length))
    rw [this]; simp [hl]
  refine h _ _ w _ ⟨htm, rfl, hM⟩ (Goes.refl m M w) fun t m' a' w' h1 hst hbl => ?_
  obtain ⟨u, hu, hr⟩ := resultS_ok hst h1
  rw [den_plain hx] at hu
  have := Option.some.inj hu
  subst this
  exact ⟨hst.df, v, hr, rfl, hbl⟩
end
end Rx
namespace Bu
set_option linter.all false
open Rx Go
/-- what is sent, what is sent back, of each channel -/
structure Lt where
  f0 : I
  f1 : I
  f2 : I
  r0 : I
  r1 : I
  r2 : I
def Lt.cells (t : Lt) : List SV := [.fl t.f0.lo, .fl t.f0.hi, .fl t.f1.lo, .fl t.f1.hi, .fl t.f2.lo, .fl t.f2.hi, .fl t.r0.lo, .fl t.r0.hi, .fl t.r1.lo, .fl t.r1.hi, .fl t.r2.lo, .fl t.r2.hi]
def Lt.sv (t : Lt) : SV := .agg t.cells
def Lt.zero : Lt := ⟨I.zero, I.zero, I.zero, I.zero, I.zero, I.zero⟩
end Bu
namespace Go.Proofs.YtgjohjgmlleebaaGreat
set_option linter.all false
open Go.RowKit Bu Rx
/-- pairs.Value of a node of a program -/
def kVn (g : Lf → I × Int) (o : Lf → Obs) : List SV → Dec → Option (SV × Dec × Obs)
  | [x, ch, .agg [.fl p0, .fl p1, .fl p2, .fl p3, .fl p4, .fl p5], .agg [.fl r0, .fl r1, .fl r2, .fl r3, .fl r4, .fl r5]], ds => match ndOf x, intS ch with
    | some n, some (.i64, c) => some (.tup [.agg [.fl (g ⟨n.k, etaF n.f, c, ⟨⟨p0, p1⟩, ⟨p2, p3⟩, ⟨p4, p5⟩⟩, ⟨⟨r0, r1⟩, ⟨r2, r3⟩, ⟨r4, r5⟩⟩⟩).1.lo, .fl (g ⟨n.k, etaF n.f, c, ⟨⟨p0, p1⟩, ⟨p2, p3⟩, ⟨p4, p5⟩⟩, ⟨⟨r0, r1⟩, ⟨r2, r3⟩, ⟨r4, r5⟩⟩⟩).1.hi], .si .i64 (g ⟨n.k, etaF n.f, c, ⟨⟨p0, p1⟩, ⟨p2, p3⟩, ⟨p4, p5⟩⟩, ⟨⟨r0, r1⟩, ⟨r2, r3⟩, ⟨r4, r5⟩⟩⟩).2], ds, (decide (n.a = 0), true) :: (decide (n.b = 0), true) :: o ⟨n.k, etaF n.f, c, ⟨⟨p0, p1⟩, ⟨p2, p3⟩, ⟨p4, p5⟩⟩, ⟨⟨r0, r1⟩, ⟨r2, r3⟩, ⟨r4, r5⟩⟩⟩)
    | _, _ => none
  | _, _ => none
def OE (o : List SV → Nat → Bool) (N : Nde) : OracleF := lookO (OCL N.K ++ [(31, kRd 19 (kRgt o)), (27, plainO (kI2 N.D N.dO)), (142, plainO (kVn N.g N.go))])
end Go.Proofs.YtgjohjgmlleebaaGreat
namespace Bu
set_option linter.all false
open Rx Go
/-- a coat over a light -/
def overC (K : Kk) (i o : I) (w : F) (a : Ch) : Ch × Int :=
  let q1 := K.num 0 one_
  let qw := K.num q1.2 w
  let s := K.sub qw.2 q1.1 o
  let h := K.sub s.2 q1.1 i
  let x := K.mul h.2 h.1 s.1
  let y := K.mul x.2 x.1 qw.1
  let f := K.mul y.2 y.1 a.p
  let q := K.sqr f.2 s.1
  let t := K.mul q.2 q.1 qw.1
  let z := K.mul t.2 t.1 a.m
  let r := K.add z.2 o z.1
  (⟨f.1, r.1⟩, r.2)
end Bu
namespace Go.Proofs.YtgjohjgmlleebaaGreat
set_option linter.all false
open Go.RowKit Bu Rx
def lfE (v u : V3) (k : Nat) (n : Nd) : Lf := ⟨n.k, etaF n.f, (k : Int), v, u⟩
/-- a channel of a node, of those ahead of it -/
def evN (N : Nde) (v u : V3) (k : Nat) (l : Nat → Ch) (n : Nd) : Ch × Int :=
  bif decide (n.k = 5) then mixC N.K (n.f 15) (l n.a.toNat) (l n.b.toNat)
  else bif decide (n.k = 6) then overC N.K (N.D v.z ⟨n.f 14, n.f 14⟩).1 (N.D u.z ⟨n.f 14, n.f 14⟩).1 (n.f (3 + k)) (l n.a.toNat)
  else (⟨(N.g (lfE v u k n)).1, I.zero⟩, (N.g (lfE v u k n)).2)
def lfOb (N : Nde) (v u : V3) (n : Nd) (k : Nat) : Obs := (decide (n.a = 0), true) :: (decide (n.b = 0), true) :: N.go (lfE v u k n)
def nd0 (cells : List SV) (off : Nat) (i : Int) : Nd := ndR cells (off + i.toNat * 19)
section
variable (N : Nde) (o : List SV → Nat → Bool) (e : TypeId) (cells lc : List SV) (v u : V3) (off len cap n : Nat) (i : Int) (x : Nat → SV)
end
end Go.Proofs.YtgjohjgmlleebaaGreat
namespace Go.Proofs.YtgjohjgmlleebaaGreat
set_option linter.all false
open Go.RowKit Bu Rx
/-- names -/
structure Npa where
  K : Kk
  o : List SV → Nat → Bool
  D : I → I → I × Int
  dO : I → I → Obs
  uo : Int → I
  u : Int → Bool
def OPa (W : Npa) : OracleF := lookO (OCL W.K ++ [(31, kRd 19 (kRgt W.o)), (27, plainO (kI2 W.D W.dO)), (26, plainO (kOf W.uo W.u))])
noncomputable def paC : Code := bodyOf Tryz.prog 28
theorem paBody : Tryz.f28.body = some paC := by kernel_rfl
noncomputable def paIn : Code := inner (seqR paC)
theorem paC_cut : paC = .seq (seqL paC) (.scope paIn) := by kernel_rfl
noncomputable def paE (e : TypeId) (cells : List SV) (off len cap : Nat) (c : I) (u : Int) (d : Dec) : St := ⟨([.ssl 0 off len cap, ivS c, .si .u64 u] : List SV) ++ List.replicate (Tryz.f28.ntmps - 3) (.tup []), [⟨e, cells, .num⟩], d, []⟩
def paT (off len cap : Nat) (g : SV) (x : Nat → SV) : List SV :=
  [.ssl 0 off len cap, x 1, x 2, x 3, .p 1 0, x 5, x 6, x 7, x 8, x 9, .p 3 0, .p 4 0, g, x 13, x 14, x 15, x 16, x 17, x 18, x 19, x 20, x 21, x 22, x 23, x 24, x 25, x 26, x 27, x 28, x 29, x 30, x 31, x 32, x 33, x 34, x 35, x 36, x 37, x 38, x 39, x 40, x 41, x 42, x 43, x 44, x 45, x 46, x 47, x 48, x 49, x 50, x 51, x 52, x 53, x 54, x 55, x 56, x 57, x 58, x 59, x 60, x 61, x 62, x 63, x 64, x 65, x 66, x 67, x 68, x 69, x 70, x 71, x 72, x 73, x 74, x 75, x 76, x 77, x 78, x 79, x 80, x 81, x 82, x 83, x 84, x 85, x 86, x 87, x 88, x 89, x 90, x 91, x 92, x 93, x 94, x 95, x 96, x 97, x 98, x 99, x 100, x 101, x 102, x 103, x 104, x 105, x 106, x 107, x 108, x 109, x 110, x 111, x 112, x 113, x 114, x 115, x 116, x 117, x 118, x 119, x 120, x 121, x 122, x 123, x 124, x 125, x 126, x 127, x 128, x 129, x 130, x 131, x 132, x 133, x 134, x 135, x 136, x 137, x 138, x 139, x 140, x 141, x 142, x 143, x 144, x 145, x 146, x 147, x 148, x 149, x 150, x 151, x 152, x 153, x 154, x 155]
def paM (e : TypeId) (cells : List SV) (c : I) (a er : Int) (s : I) (sure : Bool) : List Blk := [⟨e, cells, .num⟩, ⟨29, [.fl c.lo, .fl c.hi], .ex⟩, ⟨108, [.si .i64 er], .ex⟩, ⟨114, [.p 2 0, .si .i64 a, .fl s.lo, .fl s.hi, .b sure], .ex⟩, ⟨29, [.fl one64, .fl one64], .ex⟩]
def paS (e : TypeId) (cells : List SV) (off len cap : Nat) (c : I) (a er : Int) (s : I) (sure : Bool) (g : SV) (x : Nat → SV) (d : Dec) : St := ⟨paT off len cap g x, paM e cells c a er s sure, d, []⟩
noncomputable def paBd : Code := inner (inner (seqL (post 4 paIn)))
noncomputable def paTl : Code := seqR (post 4 paIn)
theorem paIn_cut : post 4 paIn = .seq (.block 1 (.loop paBd)) paTl := by kernel_rfl
end Go.Proofs.YtgjohjgmlleebaaGreat
namespace Bu
set_option linter.all false
open Rx Go
def keptF (a : I) : I := keptI a z64 one64
/-- one step on: below a part, or not -/
def onB (K : Kk) (er : Int) (s t : I) : I × Int := (keptF (K.div er s t).1, (K.div er s t).2)
def onN (K : Kk) (er : Int) (s t : I) : I × Int :=
  let a := K.sub er s t
  let b := K.sub a.2 (pt one64) t
  let q := K.div b.2 a.1 b.1
  (keptF q.1, q.2)
end Bu
namespace Go.Proofs.YtgjohjgmlleebaaGreat
set_option linter.all false
open Go.RowKit Bu Rx
section
variable (W : Npa) (e : TypeId) (cells : List SV) (off len cap : Nat) (c : I) (a er : Int) (s : I) (sure : Bool) (x : Nat → SV)
def paHd (cells : List SV) (off len : Nat) (a er : Int) : Obs := [(ckAll cells (off + a.toNat * 19) ndCK, true), (ixB a len, true), (er == 0, true)]
noncomputable abbrev paR (d : List Bool) : St := aft Tryz.prog EG (OPa W) 60 paBd (paS e cells off len cap c a er s sure (.b false) x (some d))
noncomputable abbrev pw (cells : List SV) (off : Nat) (a : Int) : F := (nd0 cells off a).f 15
noncomputable abbrev pI (cells : List SV) (off : Nat) (a : Int) : I := ⟨(nd0 cells off a).f 14, (nd0 cells off a).f 14⟩
noncomputable abbrev pO (W : Npa) (cells : List SV) (off : Nat) (a : Int) (c : I) : I := (W.D c (pI cells off a)).1
theorem paL_mb : Lands Tryz.prog EG (OPa W) 60 paBd (paS e cells off len cap c a er s sure (.b false) x (some [true, true, true])) .normal := by unfold Lands; kernel_rfl
theorem paO_mb : (paR W e cells off len cap c a er s sure x [true, true, true]).ob = (decide (s.hi.k < (pw cells off a).k), true) :: (((nd0 cells off a).k == 5, true) :: paHd cells off len a er) := by kernel_rfl
theorem paM_mb : selM (paR W e cells off len cap c a er s sure x [true, true, true]).M [0, 1, 2, 3, 4] = some (paM e cells c (nd0 cells off a).b (onB W.K er s ⟨(pw cells off a), (pw cells off a)⟩).2 (onB W.K er s ⟨(pw cells off a), (pw cells off a)⟩).1 sure) := by kernel_rfl
theorem paT_mb (v : Nat → Value) (M' : List Blk) : ∃ y, ((paR W e cells off len cap c a er s sure x [true, true, true]).sel [0, 1, 2, 3, 4] M' v).T = paT off len cap (.b false) y := ⟨fun k => ((paR W e cells off len cap c a er s sure x [true, true, true]).sel [0, 1, 2, 3, 4] [] v).T.getD k .np, by kernel_rfl⟩
theorem paL_mu : Lands Tryz.prog EG (OPa W) 60 paBd (paS e cells off len cap c a er s sure (.b false) x (some [true, true, false, true])) .normal := by unfold Lands; kernel_rfl
theorem paO_mu : (paR W e cells off len cap c a er s sure x [true, true, false, true]).ob = (decide (s.lo.k < (pw cells off a).k), true) :: (decide (s.hi.k < (pw cells off a).k), false) :: (((nd0 cells off a).k == 5, true) :: paHd cells off len a er) := by kernel_rfl
theorem paM_mu : selM (paR W e cells off len cap c a er s sure x [true, true, false, true]).M [0, 1, 2, 3, 4] = some (paM e cells c (nd0 cells off a).b (onB W.K er s ⟨(pw cells off a), (pw cells off a)⟩).2 (onB W.K er s ⟨(pw cells off a), (pw cells off a)⟩).1 false) := by kernel_rfl
theorem paT_mu (v : Nat → Value) (M' : List Blk) : ∃ y, ((paR W e cells off len cap c a er s sure x [true, true, false, true]).sel [0, 1, 2, 3, 4] M' v).T = paT off len cap (.b false) y := ⟨fun k => ((paR W e cells off len cap c a er s sure x [true, true, false, true]).sel [0, 1, 2, 3, 4] [] v).T.getD k .np, by kernel_rfl⟩
theorem paL_mn : Lands Tryz.prog EG (OPa W) 60 paBd (paS e cells off len cap c a er s sure (.b false) x (some [true, true, false, false])) .normal := by unfold Lands; kernel_rfl
theorem paO_mn : (paR W e cells off len cap c a er s sure x [true, true, false, false]).ob = (decide (s.lo.k < (pw cells off a).k), false) :: (decide (s.hi.k < (pw cells off a).k), false) :: (((nd0 cells off a).k == 5, true) :: paHd cells off len a er) := by kernel_rfl
theorem paM_mn : selM (paR W e cells off len cap c a er s sure x [true, true, false, false]).M [0, 1, 2, 3, 4] = some (paM e cells c (nd0 cells off a).a (onN W.K er s ⟨(pw cells off a), (pw cells off a)⟩).2 (onN W.K er s ⟨(pw cells off a), (pw cells off a)⟩).1 sure) := by kernel_rfl
theorem paT_mn (v : Nat → Value) (M' : List Blk) : ∃ y, ((paR W e cells off len cap c a er s sure x [true, true, false, false]).sel [0, 1, 2, 3, 4] M' v).T = paT off len cap (.b false) y := ⟨fun k => ((paR W e cells off len cap c a er s sure x [true, true, false, false]).sel [0, 1, 2, 3, 4] [] v).T.getD k .np, by kernel_rfl⟩
theorem paL_cn : Lands Tryz.prog EG (OPa W) 60 paBd (paS e cells off len cap c a er s sure (.b false) x (some [true, false, true, false, false, false])) .normal := by unfold Lands; kernel_rfl
theorem paO_cn : (paR W e cells off len cap c a er s sure x [true, false, true, false, false, false]).ob = (decide (s.lo.k < (pO W cells off a c).hi.k), false) :: (decide (s.hi.k < (pO W cells off a c).lo.k), false) :: ((W.D c (pI cells off a)).2 != 0, false) :: (W.dO c (pI cells off a) ++ (((nd0 cells off a).k == 6, true) :: ((nd0 cells off a).k == 5, false) :: paHd cells off len a er)) := by kernel_rfl
theorem paM_cn : selM (paR W e cells off len cap c a er s sure x [true, false, true, false, false, false]).M [0, 1, 2, 3, 4] = some (paM e cells c (nd0 cells off a).a (onN W.K er s (pO W cells off a c)).2 (onN W.K er s (pO W cells off a c)).1 sure) := by kernel_rfl
theorem paT_cn (v : Nat → Value) (M' : List Blk) : ∃ y, ((paR W e cells off len cap c a er s sure x [true, false, true, false, false, false]).sel [0, 1, 2, 3, 4] M' v).T = paT off len cap (.b false) y := ⟨fun k => ((paR W e cells off len cap c a er s sure x [true, false, true, false, false, false]).sel [0, 1, 2, 3, 4] [] v).T.getD k .np, by kernel_rfl⟩
theorem paL_cb : Lands Tryz.prog EG (OPa W) 60 paBd (paS e cells off len cap c a er s sure (.b false) x (some [true, false, true, false, true])) (.exit 1) := by unfold Lands; kernel_rfl
theorem paO_cb : (paR W e cells off len cap c a er s sure x [true, false, true, false, true]).ob = (decide (s.hi.k < (pO W cells off a c).lo.k), true) :: ((W.D c (pI cells off a)).2 != 0, false) :: (W.dO c (pI cells off a) ++ (((nd0 cells off a).k == 6, true) :: ((nd0 cells off a).k == 5, false) :: paHd cells off len a er)) := by kernel_rfl
theorem paM_cb : selM (paR W e cells off len cap c a er s sure x [true, false, true, false, true]).M [0, 1, 2, 3, 4] = some (paM e cells c a (s, er).2 (s, er).1 sure) := by kernel_rfl
theorem paT_cb (v : Nat → Value) (M' : List Blk) : ∃ y, ((paR W e cells off len cap c a er s sure x [true, false, true, false, true]).sel [0, 1, 2, 3, 4] M' v).T = paT off len cap (.b true) y := ⟨fun k => ((paR W e cells off len cap c a er s sure x [true, false, true, false, true]).sel [0, 1, 2, 3, 4] [] v).T.getD k .np, by kernel_rfl⟩
theorem paL_cu : Lands Tryz.prog EG (OPa W) 60 paBd (paS e cells off len cap c a er s sure (.b false) x (some [true, false, true, false, false, true])) (.exit 1) := by unfold Lands; kernel_rfl
theorem paO_cu : (paR W e cells off len cap c a er s sure x [true, false, true, false, false, true]).ob = (decide (s.lo.k < (pO W cells off a c).hi.k), true) :: (decide (s.hi.k < (pO W cells off a c).lo.k), false) :: ((W.D c (pI cells off a)).2 != 0, false) :: (W.dO c (pI cells off a) ++ (((nd0 cells off a).k == 6, true) :: ((nd0 cells off a).k == 5, false) :: paHd cells off len a er)) := by kernel_rfl
theorem paM_cu : selM (paR W e cells off len cap c a er s sure x [true, false, true, false, false, true]).M [0, 1, 2, 3, 4] = some (paM e cells c a (s, er).2 (s, er).1 false) := by kernel_rfl
theorem paT_cu (v : Nat → Value) (M' : List Blk) : ∃ y, ((paR W e cells off len cap c a er s sure x [true, false, true, false, false, true]).sel [0, 1, 2, 3, 4] M' v).T = paT off len cap (.b true) y := ⟨fun k => ((paR W e cells off len cap c a er s sure x [true, false, true, false, false, true]).sel [0, 1, 2, 3, 4] [] v).T.getD k .np, by kernel_rfl⟩
theorem paL_lf : Lands Tryz.prog EG (OPa W) 60 paBd (paS e cells off len cap c a er s sure (.b false) x (some [true, false, false])) (.exit 1) := by unfold Lands; kernel_rfl
theorem paO_lf : (paR W e cells off len cap c a er s sure x [true, false, false]).ob = ((nd0 cells off a).k == 6, false) :: ((nd0 cells off a).k == 5, false) :: paHd cells off len a er := by kernel_rfl
theorem paM_lf : selM (paR W e cells off len cap c a er s sure x [true, false, false]).M [0, 1, 2, 3, 4] = some (paM e cells c a (s, er).2 (s, er).1 sure) := by kernel_rfl
theorem paT_lf (v : Nat → Value) (M' : List Blk) : ∃ y, ((paR W e cells off len cap c a er s sure x [true, false, false]).sel [0, 1, 2, 3, 4] M' v).T = paT off len cap (.b false) y := ⟨fun k => ((paR W e cells off len cap c a er s sure x [true, false, false]).sel [0, 1, 2, 3, 4] [] v).T.getD k .np, by kernel_rfl⟩
theorem paL_er : Lands Tryz.prog EG (OPa W) 60 paBd (paS e cells off len cap c a er s sure (.b false) x (some [false])) (.exit 1) := by unfold Lands; kernel_rfl
theorem paO_er : (paR W e cells off len cap c a er s sure x [false]).ob = [(er == 0, false)] := by kernel_rfl
theorem paM_er : selM (paR W e cells off len cap c a er s sure x [false]).M [0, 1, 2, 3, 4] = some (paM e cells c a (s, er).2 (s, er).1 sure) := by kernel_rfl
theorem paT_er (v : Nat → Value) (M' : List Blk) : ∃ y, ((paR W e cells off len cap c a er s sure x [false]).sel [0, 1, 2, 3, 4] M' v).T = paT off len cap (.b false) y := ⟨fun k => ((paR W e cells off len cap c a er s sure x [false]).sel [0, 1, 2, 3, 4] [] v).T.getD k .np, by kernel_rfl⟩
end
end Go.Proofs.YtgjohjgmlleebaaGreat
