/- dens.all: the rounds. dens.all as a known function. dens.all as a known function: rounds, and the whole. dens.all as a known function. dens.Chance, dens.Mirror, dens.At as known functions. eval.Eval: entry, slots, the end. dens: what chances are made of, really; dens.At. burnishlow.Prog: pieces. burnishlow.Prog: the rounds. burnishlow.Prog: the entry. burnishlow.Prog: plain, and its loop. burnishlow.Prog as a known function. eval.Eval: what each node's light is; a round. draw.Path: the contract. eval.Eval: the contract. -/
import Derived.Test.YtgjohjgmlleebaaGreatL12
import Derived.Test.YtgjohjgmlleebaaGreatL11
namespace Go.Proofs.YtgjohjgmlleebaaGreat
set_option linter.all false
open Go.RowKit Bu Rx

section
variable (N : Nde) (e : TypeId) (cells lc : List SV) (v u : V3) (off len cap : Nat) (cos : I) (i : Int) (x : Nat → SV)
end
end Go.Proofs.YtgjohjgmlleebaaGreat
namespace Go.Proofs.YtgjohjgmlleebaaGreat
set_option linter.all false
open Go.RowKit Bu Rx

def x0 (k len : Nat) : Nat → SV := fun j => bif Nat.beq j 7 then .i .i64 0 else bif Nat.beq j 12 then .ssl 0 0 0 0 else .tup []
section
variable (N : Nde) (e : TypeId) (cells : List SV) (v u : V3) (off len cap : Nat) (cos : I)
end
end Go.Proofs.YtgjohjgmlleebaaGreat
namespace Bu
set_option linter.all false
open Rx Go
theorem okNd_mix {n : Nd} {p : Int} (h : okNd n p = true) (h5 : n.k = 5) : (0 ≤ n.a ∧ n.a < p) ∧ 0 ≤ n.b ∧ n.b < p := by
  unfold okNd at h
  rw [h5] at h
  simp only [Bool.and_eq_true, decide_eq_true_eq, Int.reduceEq, decide_false, decide_true, cond_false, cond_true] at h
  exact ⟨⟨h.2.2.1, h.2.2.2.1⟩, h.2.2.2.2.1, h.2.2.2.2.2⟩
theorem okNd_coat {n : Nd} {p : Int} (h : okNd n p = true) (h6 : n.k = 6) : 0 ≤ n.a ∧ n.a < p := by
  unfold okNd at h
  rw [h6] at h
  simp only [Bool.and_eq_true, decide_eq_true_eq, Int.reduceEq, decide_false, decide_true, cond_false, Bool.true_and] at h
  exact ⟨h.2.2.2.1, h.2.2.2.2.1⟩
theorem ChRow.at {c : Nat → Ch} {len i : Nat} {lc : List SV} (h : ChRow c len i lc) {a : Int} (h0 : 0 ≤ a) (ha : a < i) :
    chAt lc (0 + a.toNat * 4) = c a.toNat ∧ ckAll lc (0 + a.toNat * 4) chCK = true ∧ ckAll lc (0 + a.toNat * 4) [.f, .f] = true ∧ ckAll lc (0 + a.toNat * 4 + 2) [.f, .f] = true := by
  have hc := h.c a.toNat (by omega)
  rw [Nat.zero_add]
  obtain ⟨e1, e2⟩ := ch_at hc
  have e3 := e2
  unfold chCK ckAll ckAll ckAll ckAll ckAll at e3
  simp only [Bool.and_eq_true] at e3
  obtain ⟨q0, q1, q2, q3, _⟩ := e3
  refine ⟨e1, e2, ?_, ?_⟩
  · unfold ckAll ckAll ckAll; simp only [q0, q1, Bool.and_self]
  · unfold ckAll ckAll ckAll; simp only [Bool.and_true, Bool.and_eq_true]; exact ⟨q2, q3⟩
theorem ix_of {a : Int} {n : Nat} (h0 : 0 ≤ a) (h : a < n) : ixB a n = true := by unfold ixB; simp; omega
theorem ne_0 {n : Int} (h : n = 0) : (n != 0) = false := by rw [h]; rfl
end Bu
namespace Go.Proofs.YtgjohjgmlleebaaGreat
set_option linter.all false
open Go.RowKit Bu Rx

end Go.Proofs.YtgjohjgmlleebaaGreat
namespace Go.Proofs.YtgjohjgmlleebaaGreat
set_option linter.all false
open Go.RowKit Bu Rx
end Go.Proofs.YtgjohjgmlleebaaGreat
namespace Bu
set_option linter.all false
open Rx Go
structure Ndn where
  o : List SV → Nat → Bool
  g : I → V3 → V3 → List SV → Nat → Ch
  b : I → V3 → V3 → List SV → Nat → Bool
  gm : I → List SV → Nat → Ch
  bm : I → List SV → Nat → Bool
theorem at_take {cells cs : List SV} {off : Nat} (h : CellsAt cells off cs) : (cells.drop off).take cs.length = cs := by
  refine List.ext_getElem? fun j => ?_
  rw [List.getElem?_take]
  by_cases hj : j < cs.length
  · rw [if_pos hj, List.getElem?_drop, h j _ (List.getElem?_eq_getElem hj), List.getElem?_eq_getElem hj]
  · rw [if_neg hj, List.getElem?_eq_none (by omega)]
end Bu
namespace Go.Proofs.YtgjohjgmlleebaaGreat
set_option linter.all false
open Go.RowKit Bu Rx
def cutC (cells : List SV) (off len : Nat) : List SV := (cells.drop off).take (len * 19)
theorem rd_of_runT {P : Program} {E : ExtF} {O : OracleF} (hP : Rx.Good P E) (hO : OracleOk P O) (n : Nat) {g : FuncId} {cs l : List SV} {len : Nat} {vc vs : List Value} {x : SV} {v : Value} (hc : plains cs = some vc) (hl : plains l = some vs) (hx : plain x = some v)
    (h : ∀ (e : TypeId) (cells : List SV) (off cap : Nat), CellsAt cells off cs → ∃ ds ds' ob, ((run P E O n).1 g (.ssl 0 off len cap :: l) [⟨e, cells, .num⟩] ds).map (fun q => (q.1, q.2.1.take 1, q.2.2)) = some (x, [⟨e, cells, .num⟩], ds', ob) ∧ ObsOk ob)
    (w : World) (r off cap : Nat) (hw : RowAt w r off vc) : Calls P g (Value.slice (some ⟨r, off, none⟩) len cap :: vs).toArray w fun e w' => e = .returned v ∧ Below w.heap.size w w' := by
  refine rd_of_run hP hO n hc hl hx (fun e cells off cap hca => ?_) w r off cap hw
  obtain ⟨ds, ds', ob, h1, h2⟩ := h e cells off cap hca
  simp only [Option.map_eq_some_iff, Prod.mk.injEq] at h1
  obtain ⟨⟨y, M, d, o⟩, h3, h4, h5, h6⟩ := h1
  simp only at h4 h5 h6
  obtain ⟨rfl, rfl⟩ := Prod.mk.inj h6
  subst h4
  cases M with
  | nil => simp at h5
  | cons b M =>
    simp only [List.take_succ_cons, List.take_zero, List.cons.injEq, and_true] at h5
    subst h5
    exact ⟨M, ds, d, o, h3, h2⟩
section
variable (D : Ndn) (e : TypeId) (cells : List SV) (off len cap : Nat) (v u : V3) (cos : I)
end
theorem cut_at {cells cs : List SV} {off len : Nat} (h : CellsAt cells off cs) (hl : cs.length = len * 19) : cutC cells off len = cs := by
  unfold cutC; rw [← hl]; exact at_take h
end Go.Proofs.YtgjohjgmlleebaaGreat
namespace Go.Proofs.YtgjohjgmlleebaaGreat
set_option linter.all false
open Go.RowKit Bu Rx
section
variable (N : Nde) (o : List SV → Nat → Bool) (e : TypeId) (cells lc : List SV) (v u : V3) (off len cap n : Nat) (i : Int) (x : Nat → SV)
end
end Go.Proofs.YtgjohjgmlleebaaGreat
namespace Go.Proofs.YtgjohjgmlleebaaGreat
set_option linter.all false
open Go.RowKit Bu Rx

section
variable (D : Ndn) (un : F → F → F → V3) (ub : F → F → F → Bool) (e : TypeId) (cells : List SV) (off len cap : Nat) (x y z r s t : F)
end
end Go.Proofs.YtgjohjgmlleebaaGreat
namespace Bu
set_option linter.all false
open Rx Go
def u32S (x : SV) : Option Int := match intS x with
  | some (.u32, n) => some n
  | _ => none
/-- eight numbers, however they are told -/
def u8Of : SV → Option U8
  | .agg [x0, x1, x2, x3, x4, x5, x6, x7] => match u32S x0, u32S x1, u32S x2, u32S x3, u32S x4, u32S x5, u32S x6, u32S x7 with
    | some a0, some a1, some a2, some a3, some a4, some a5, some a6, some a7 => some ⟨a0, a1, a2, a3, a4, a5, a6, a7⟩
    | _, _, _, _, _, _, _, _ => none
  | _ => none
theorem u32S_plain {x : SV} {n : Int} (h : u32S x = some n) : plain x = some (.int .u32 n) := by
  unfold u32S at h
  split at h
  · rename_i k e
    simp only [Option.some.injEq] at h; subst h
    exact intS_plain e
  · cases h
def U8.vs (u : U8) : List Value := [.int .u32 u.a0, .int .u32 u.a1, .int .u32 u.a2, .int .u32 u.a3, .int .u32 u.a4, .int .u32 u.a5, .int .u32 u.a6, .int .u32 u.a7]
theorem u8Of_plain {x : SV} {u : U8} (h : u8Of x = some u) : plain x = some (.agg u.vs.toArray) := by
  unfold u8Of at h
  split at h
  · split at h
    · rename_i e0 e1 e2 e3 e4 e5 e6 e7
      simp only [Option.some.injEq] at h; subst h
      exact plain_agg (plains_cons (u32S_plain e0) (plains_cons (u32S_plain e1) (plains_cons (u32S_plain e2) (plains_cons (u32S_plain e3) (plains_cons (u32S_plain e4) (plains_cons (u32S_plain e5) (plains_cons (u32S_plain e6) (plains_cons (u32S_plain e7) rfl))))))))
    · cases h
  · cases h
def kLe8 (k : U8 → Int) (f : U8 → Nat → F) (o : U8 → Bool) : List SV → Dec → Option (SV × Dec × Obs)
  | [x], ds => match u8Of x with
    | some u => some (nodeZ (k u) (f u), ds, [(o u, true)])
    | none => none
  | _, _ => none
end Bu
namespace Go.Proofs.YtgjohjgmlleebaaGreat
set_option linter.all false
open Go.RowKit Bu Rx
theorem le8G : PlainOk Tryz.prog 22 (kLe8 leK (leF bwF) U8.ok) := by
  intro args ds x ds' ob h ho
  unfold kLe8 at h
  split at h
  · rename_i y
    split at h
    · rename_i u hu
      simp only [Option.some.injEq, Prod.mk.injEq] at h
      obtain ⟨rfl, _, rfl⟩ := h
      have hy := u8Of_plain hu
      obtain ⟨vs, v, h5, h6, h7⟩ := leG [u.sv] ds _ ds _ rfl ho
      refine ⟨vs, v, ?_, h6, h7⟩
      rw [← h5]
      have e1 : plain u.sv = some (.agg u.vs.toArray) := rfl
      show plains [y] = plains [u.sv]
      unfold plains
      rw [hy, e1]
    · cases h
  · cases h
structure Npr where
  k : U8 → Int
  f : U8 → Nat → F
  o : U8 → Bool
  q : Int → F
  w : Int → Bool
  b : F → F → Int → F
  p : F → F → Bool
def OPr (N : Npr) : OracleF := lookO [(22, plainO (kLe8 N.k N.f N.o)), (25, plainO (kFq N.q N.w)), (19, plainO (kBw N.b N.p N.w))]
end Go.Proofs.YtgjohjgmlleebaaGreat
namespace Bu
set_option linter.all false
open Rx Go
def u8At (cs : List SV) (o : Nat) : U8 := ⟨inAt cs o, inAt cs (o + 1), inAt cs (o + 2), inAt cs (o + 3), inAt cs (o + 4), inAt cs (o + 5), inAt cs (o + 6), inAt cs (o + 7)⟩
def u8CK : List CK := [.i .u32, .i .u32, .i .u32, .i .u32, .i .u32, .i .u32, .i .u32, .i .u32]
def fz : SV := .fl F.zero
def nzC (k : Int) (f : Nat → F) : List SV := [.si .u8 k, .fl (f 0), .fl (f 1), .fl (f 2), .fl (f 3), .fl (f 4), .fl (f 5), .fl (f 6), .fl (f 7), .fl (f 8), .fl (f 9), .fl (f 10), .fl (f 11), .fl (f 12), .fl (f 13), .fl (f 14), .fl (f 15), .i .i64 0, .i .i64 0]
end Bu
namespace Go.Proofs.YtgjohjgmlleebaaGreat
set_option linter.all false
open Go.RowKit Bu Rx
def minIor_ : F := toF 4607463893776728064
def maxIor_ : F := toF 4616189618054758400
section
variable (N : Npr) (e : TypeId × (Nat × Nat)) (cells pc : List SV) (off len cap o1 l1 c1 n : Nat) (i : Int) (x : Nat → SV)
end
end Go.Proofs.YtgjohjgmlleebaaGreat
namespace Go.Proofs.YtgjohjgmlleebaaGreat
set_option linter.all false
open Go.RowKit Bu Rx
def u8Z : U8 := ⟨0, 0, 0, 0, 0, 0, 0, 0⟩
section
variable (N : Npr) (e : TypeId × (Nat × Nat)) (cells pc : List SV) (off len cap : Nat) (x : Nat → SV)
end
end Go.Proofs.YtgjohjgmlleebaaGreat
namespace Go.Proofs.YtgjohjgmlleebaaGreat
set_option linter.all false
open Go.RowKit Bu Rx
def prgB (N : Npr) (u : U8) : Bool := N.o u && (N.w u.a3 && (N.w u.a4 && (N.w u.a5 && N.w u.a6)))
end Go.Proofs.YtgjohjgmlleebaaGreat
namespace Go.Proofs.YtgjohjgmlleebaaGreat
set_option linter.all false
open Go.RowKit Bu Rx
theorem LandsB.seq {P : Program} {E : ExtF} {O : OracleF} {B : Bs} (hP : Rx.Good P E) (hO : OracleOk P O) {n : Nat} {c d : Code} {s : St} {ex : Ex} {Ψ : St → Prop} (h : Lands P E O n c s .normal) (ho : ObsOk (aft P E O n c s).ob) (k : RunsB P B d (aft P E O n c s) ex Ψ) : RunsB P B (.seq c d) s ex Ψ :=
  RunsB.seq (RunsP.bs (h.runs hP hO ho)) fun _ ht => ht ▸ k
structure PrIn (N : Npr) (cs : List SV) (len : Nat) : Prop where
  row : ∀ j, j < len → j < 8 → ckAll cs (j * 8) u8CK = true
  ok : ∀ j, j < len → j < 8 → prgB N (u8At cs (j * 8)) = true
section
variable {N : Npr} (hO : OracleOk Tryz.prog (OPr N)) (hN : N.p minIor_ maxIor_ = true) (hZ : N.o u8Z = true) {e : TypeId × (Nat × Nat)} {cells cs : List SV} {off len cap : Nat} {B : Bs} (hB : B.M.length = 1) (hid : idsLts 0 cells = true) (hca : CellsAt cells off cs) (hcap : len ≤ cap) (K : PrIn N cs len)
include hO hN hB hca hcap K
end
end Go.Proofs.YtgjohjgmlleebaaGreat
namespace Bu
set_option linter.all false
open Rx Go
end Bu
namespace Go.Proofs.YtgjohjgmlleebaaGreat
set_option linter.all false
open Go.RowKit Bu Rx
def allE (N : Nde) (v u : V3) (cs : List SV) (k : Nat) : (Nat → Ch) → Nat → Ch × Int := fun l i => evN N v u k l (ndR cs (i * 19))
/-- no error, and what is asked of the parts of a node -/
def evNB (N : Nde) (v u : V3) (l : Nat → Nat → Ch) (n : Nd) : Bool :=
  (bif decide (n.k = 5) then true
  else bif decide (n.k = 6) then (Bu.obsB (N.dO v.z ⟨n.f 14, n.f 14⟩) && decide ((N.D v.z ⟨n.f 14, n.f 14⟩).2 = 0)) && (Bu.obsB (N.dO u.z ⟨n.f 14, n.f 14⟩) && decide ((N.D u.z ⟨n.f 14, n.f 14⟩).2 = 0))
  else Bu.obsB (lfOb N v u n 0) && (Bu.obsB (lfOb N v u n 1) && Bu.obsB (lfOb N v u n 2))) &&
  (decide ((evN N v u 0 (l 0) n).2 = 0) && (decide ((evN N v u 1 (l 1) n).2 = 0) && decide ((evN N v u 2 (l 2) n).2 = 0)))
def evB (N : Nde) (v u : V3) (cs : List SV) (len : Nat) : Bool :=
  (List.range len).all fun i => evNB N v u (fun k j => (chL (allE N v u cs k) i).getD j Ch.zero) (ndR cs (i * 19))
theorem beq_t {a b : Int} (h : a = b) : (a == b) = true := by rw [h]; exact beq_self_eq_true b
theorem beq_f {a b : Int} (h : a ≠ b) : (a == b) = false := by simpa using h
section
variable {N : Nde} {o : List SV → Nat → Bool} (hO : OracleOk Tryz.prog (OE o N)) {e : TypeId} {cells cs : List SV} {v u : V3} {off len cap i : Nat} {x : Nat → SV} {B : Bs} (hB1 : B.M.length = 1) (K : OkPg cs len) (hca : CellsAt cells off cs) (hB : evB N v u cs len = true) (hi : i < len)
include hO hB1 K hca hB hi
end
end Go.Proofs.YtgjohjgmlleebaaGreat
namespace Rx
set_option linter.all false
open Go Go.RowKit
theorem RunsB.scope {P : Program} {B : Bs} {c : Code} {s : St} {Φ : St → Prop} (h : RunsB P B c s .ret Φ) : RunsB P B (.scope c) s .ret Φ := by
  intro m a w Q hs hg hq
  refine wp_scope_straight (h m a w _ hs hg fun t m' a' w' h1 hst hg' => ?_)
  exact hq t m' a' w' h1 hst hg'
end Rx
namespace Bu
set_option linter.all false
open Rx Go
structure Pst where
  a : Nat
  s : I
  sure : Bool
  er : Int
/-- the way down -/
def pathF (K : Kk) (D : I → I → I × Int) (c : I) (cs : List SV) : Nat → Pst → Pst × Bool
  | 0, p => (p, false)
  | n + 1, p =>
    bif decide (p.er = 0) then
      bif decide ((ndR cs (p.a * 19)).k = 5) then
        bif decide (p.s.hi.k < ((ndR cs (p.a * 19)).f 15).k) then pathF K D c cs n ⟨(ndR cs (p.a * 19)).b.toNat, (onB K p.er p.s (pt ((ndR cs (p.a * 19)).f 15))).1, p.sure, (onB K p.er p.s (pt ((ndR cs (p.a * 19)).f 15))).2⟩
        else bif decide (p.s.lo.k < ((ndR cs (p.a * 19)).f 15).k) then pathF K D c cs n ⟨(ndR cs (p.a * 19)).b.toNat, (onB K p.er p.s (pt ((ndR cs (p.a * 19)).f 15))).1, false, (onB K p.er p.s (pt ((ndR cs (p.a * 19)).f 15))).2⟩
        else pathF K D c cs n ⟨(ndR cs (p.a * 19)).a.toNat, (onN K p.er p.s (pt ((ndR cs (p.a * 19)).f 15))).1, p.sure, (onN K p.er p.s (pt ((ndR cs (p.a * 19)).f 15))).2⟩
      else bif decide ((ndR cs (p.a * 19)).k = 6) then
        bif decide (p.s.hi.k < (D c (pt ((ndR cs (p.a * 19)).f 14))).1.lo.k) then (p, true)
        else bif decide (p.s.lo.k < (D c (pt ((ndR cs (p.a * 19)).f 14))).1.hi.k) then (⟨p.a, p.s, false, p.er⟩, true)
        else pathF K D c cs n ⟨(ndR cs (p.a * 19)).a.toNat, (onN K p.er p.s (D c (pt ((ndR cs (p.a * 19)).f 14))).1).1, p.sure, (onN K p.er p.s (D c (pt ((ndR cs (p.a * 19)).f 14))).1).2⟩
      else (p, false)
    else (p, false)
end Bu
namespace Go.Proofs.YtgjohjgmlleebaaGreat
set_option linter.all false
open Go.RowKit Bu Rx
/-- what coats reflect has no error -/
def paB (D : I → I → I × Int) (dO : I → I → Obs) (c : I) (cs : List SV) (len : Nat) : Bool :=
  (List.range len).all fun i => bif decide ((ndR cs (i * 19)).k = 6) then Bu.obsB (dO c (pt ((ndR cs (i * 19)).f 14))) && decide ((D c (pt ((ndR cs (i * 19)).f 14))).2 = 0) else true
theorem paB_at {D : I → I → I × Int} {dO : I → I → Obs} {c : I} {cs : List SV} {len i : Nat} (h : paB D dO c cs len = true) (hi : i < len) (h6 : (ndR cs (i * 19)).k = 6) : ObsOk (dO c (pt ((ndR cs (i * 19)).f 14))) ∧ (D c (pt ((ndR cs (i * 19)).f 14))).2 = 0 := by
  have h1 := List.all_eq_true.1 h i (List.mem_range.2 hi)
  rw [decide_eq_true h6, cond_true, Bool.and_eq_true, decide_eq_true_eq] at h1
  exact ⟨Bu.obsB_ok h1.1, h1.2⟩
section
variable {W : Npa} (hO : OracleOk Tryz.prog (OPa W)) {e : TypeId} {cells cs : List SV} {c : I} {off len cap : Nat} {B : Bs} (hB1 : B.M.length = 1) (K : OkPg cs len) (hca : CellsAt cells off cs) (hB : paB W.D W.dO c cs len = true)
noncomputable abbrev paP (e : TypeId) (cells : List SV) (off len cap : Nat) (c : I) (p : Pst) (g : Bool) (x : Nat → SV) : St := paS e cells off len cap c (p.a : Int) p.er p.s p.sure (.b g) x none
include hO hB1
theorem pa_step {a er : Int} {s : I} {sure : Bool} {x : Nat → SV} {d : List Bool} {ex : Ex} {A E : Int} {s' : I} {u' g' : Bool} (hL : Lands Tryz.prog EG (OPa W) 60 paBd (paS e cells off len cap c a er s sure (.b false) x (some d)) ex) (ho : ObsOk (paR W e cells off len cap c a er s sure x d).ob)
    (hM : selM (paR W e cells off len cap c a er s sure x d).M [0, 1, 2, 3, 4] = some (paM e cells c A E s' u')) (hT : ∀ (v : Nat → Value) (M' : List Blk), ∃ y, ((paR W e cells off len cap c a er s sure x d).sel [0, 1, 2, 3, 4] M' v).T = paT off len cap (.b g') y) :
    RunsB Tryz.prog B paBd (paS e cells off len cap c a er s sure (.b false) x none) ex (fun t => ∃ y, t = paS e cells off len cap c A E s' u' (.b g') y none) := by
  have hk : ∀ n, n < B.M.length → ([0, 1, 2, 3, 4] : List Nat)[n]? = some n := fun n hn => by
    rw [hB1] at hn
    have : n = 0 := by omega
    subst this; rfl
  refine RunsB.re (d := some d) (o := []) (RunsB.sel (RunsP.bs (Lands.runs goodG hO hL ho)) rfl hM hk fun v => ?_)
  obtain ⟨y, hy⟩ := hT v (paM e cells c A E s' u')
  exact ⟨_, ⟨y, rfl⟩, same_eq hy.symm rfl⟩
include K hca hB
set_option maxRecDepth 20000 in
theorem pa_loop {R : Pst × Bool} (n : Nat) (p : Pst) (x : Nat → SV) (hn : p.a < n) (hl : p.a < len) (hR : pathF W.K W.D c cs n p = R) :
    RunsB Tryz.prog B (.block 1 (.loop paBd)) (paP e cells off len cap c p false x) .normal (fun t => R.1.a < len ∧ ∃ y, t = paP e cells off len cap c R.1 R.2 y) := by
  refine loop_outB (fun q : Nat × Pst × (Nat → SV) => paP e cells off len cap c q.2.1 false q.2.2) (fun q => q.1) (fun q => q.2.1.a < q.1 ∧ q.2.1.a < len ∧ pathF W.K W.D c cs q.1 q.2.1 = R) ?_ (n, p, x) ⟨hn, hl, hR⟩
  rintro ⟨n, p, x⟩ ⟨h1, h2, h3⟩
  simp only at h1 h2 h3
  obtain ⟨n, rfl⟩ : ∃ k, n = k + 1 := ⟨n - 1, by omega⟩
  obtain ⟨hck, hnr⟩ := K.at hca h2
  have hnd := K.nd p.a h2
  have hcb := fun h6 => paB_at hB h2 h6
  have hnd0 : nd0 cells off (p.a : Int) = ndR cs (p.a * 19) := by unfold nd0; rw [Int.toNat_natCast]; exact hnr
  have hH : ∀ {er : Int}, er = 0 → ObsOk (paHd cells off len (p.a : Int) er) := fun he => by
    unfold paHd
    rw [Int.toNat_natCast]
    exact ob_c hck (ob_c (ix_of (by omega) (by omega)) (ob_c (beq_t he) ob_n))
  unfold pathF at h3
  obtain ⟨a, s, sure, er⟩ := p
  simp only at h1 h2 h3 hck hnr hnd hcb hnd0 hH ⊢
  have fin : ∀ {A E : Int} {s' : I} {u' : Bool} (a' : Nat), (a' : Int) = A → a' < a → pathF W.K W.D c cs n ⟨a', s', u', E⟩ = R → ∀ t : St, (∃ y, t = paS e cells off len cap c A E s' u' (.b false) y none) → ∃ q : Nat × Pst × (Nat → SV), (q.2.1.a < q.1 ∧ q.2.1.a < len ∧ pathF W.K W.D c cs q.1 q.2.1 = R) ∧ q.1 < n + 1 ∧ t = paP e cells off len cap c q.2.1 false q.2.2 := by
    intro A E s' u' a' hA ha hp t ⟨y, hy⟩
    subst hA
    exact ⟨(n, ⟨a', s', u', E⟩, y), ⟨by show a' < n; omega, by show a' < len; omega, hp⟩, Nat.lt_succ_self n, hy⟩
  by_cases he : er = 0
  · rw [decide_eq_true he, cond_true] at h3
    generalize hgn : ndR cs (a * 19) = nd at h3 hnd hcb hnd0
    by_cases h5 : nd.k = 5
    · obtain ⟨⟨a0, a1⟩, b0, b1⟩ := okNd_mix hnd h5
      rw [decide_eq_true h5, cond_true] at h3
      refine .inr ?_
      by_cases g1 : s.hi.k < (nd.f 15).k
      · rw [decide_eq_true g1, cond_true] at h3
        refine (pa_step hO hB1 (paL_mb W e cells off len cap c a er s sure x) ?_ (paM_mb W e cells off len cap c a er s sure x) (paT_mb W e cells off len cap c a er s sure x)).mono (fin nd.b.toNat ?_ ?_ ?_)
        · rw [paO_mb]; simp only [pw, hnd0]
          exact ob_c (decide_eq_true g1) (ob_c (beq_t h5) (hH he))
        · rw [hnd0]; exact Int.toNat_of_nonneg b0
        · omega
        · simp only [pw, hnd0]; exact h3
      · rw [decide_eq_false g1, cond_false] at h3
        by_cases g2 : s.lo.k < (nd.f 15).k
        · rw [decide_eq_true g2, cond_true] at h3
          refine (pa_step hO hB1 (paL_mu W e cells off len cap c a er s sure x) ?_ (paM_mu W e cells off len cap c a er s sure x) (paT_mu W e cells off len cap c a er s sure x)).mono (fin nd.b.toNat ?_ ?_ ?_)
          · rw [paO_mu]; simp only [pw, hnd0]
            exact ob_c (decide_eq_true g2) (ob_c (decide_eq_false g1) (ob_c (beq_t h5) (hH he)))
          · rw [hnd0]; exact Int.toNat_of_nonneg b0
          · omega
          · simp only [pw, hnd0]; exact h3
        · rw [decide_eq_false g2, cond_false] at h3
          refine (pa_step hO hB1 (paL_mn W e cells off len cap c a er s sure x) ?_ (paM_mn W e cells off len cap c a er s sure x) (paT_mn W e cells off len cap c a er s sure x)).mono (fin nd.a.toNat ?_ ?_ ?_)
          · rw [paO_mn]; simp only [pw, hnd0]
            exact ob_c (decide_eq_false g2) (ob_c (decide_eq_false g1) (ob_c (beq_t h5) (hH he)))
          · rw [hnd0]; exact Int.toNat_of_nonneg a0
          · omega
          · simp only [pw, hnd0]; exact h3
    · rw [decide_eq_false h5, cond_false] at h3
      by_cases h6 : nd.k = 6
      · obtain ⟨a0, a1⟩ := okNd_coat hnd h6
        obtain ⟨k1, k2⟩ := hcb h6
        rw [decide_eq_true h6, cond_true] at h3
        have hC : ObsOk (((W.D c (pt (nd.f 14))).2 != 0, false) :: (W.dO c (pt (nd.f 14)) ++ ((nd.k == 6, true) :: (nd.k == 5, false) :: paHd cells off len a er))) := ob_c (ne_0 k2) (ob_a k1 (ob_c (beq_t h6) (ob_c (beq_f h5) (hH he))))
        by_cases g1 : s.hi.k < (W.D c (pt (nd.f 14))).1.lo.k
        · rw [decide_eq_true g1, cond_true] at h3
          refine .inl ((pa_step hO hB1 (paL_cb W e cells off len cap c a er s sure x) ?_ (paM_cb W e cells off len cap c a er s sure x) (paT_cb W e cells off len cap c a er s sure x)).mono fun t ⟨y, hy⟩ => ?_)
          · rw [paO_cb]; simp only [pO, pI, hnd0]
            exact ob_c (decide_eq_true g1) hC
          · subst h3; exact ⟨h2, y, hy⟩
        · rw [decide_eq_false g1, cond_false] at h3
          by_cases g2 : s.lo.k < (W.D c (pt (nd.f 14))).1.hi.k
          · rw [decide_eq_true g2, cond_true] at h3
            refine .inl ((pa_step hO hB1 (paL_cu W e cells off len cap c a er s sure x) ?_ (paM_cu W e cells off len cap c a er s sure x) (paT_cu W e cells off len cap c a er s sure x)).mono fun t ⟨y, hy⟩ => ?_)
            · rw [paO_cu]; simp only [pO, pI, hnd0]
              exact ob_c (decide_eq_true g2) (ob_c (decide_eq_false g1) hC)
            · subst h3; exact ⟨h2, y, hy⟩
          · rw [decide_eq_false g2, cond_false] at h3
            refine .inr ((pa_step hO hB1 (paL_cn W e cells off len cap c a er s sure x) ?_ (paM_cn W e cells off len cap c a er s sure x) (paT_cn W e cells off len cap c a er s sure x)).mono (fin nd.a.toNat ?_ ?_ ?_))
            · rw [paO_cn]; simp only [pO, pI, hnd0]
              exact ob_c (decide_eq_false g2) (ob_c (decide_eq_false g1) hC)
            · rw [hnd0]; exact Int.toNat_of_nonneg a0
            · omega
            · simp only [pO, pI, hnd0]; exact h3
      · rw [decide_eq_false h6, cond_false] at h3
        refine .inl ((pa_step hO hB1 (paL_lf W e cells off len cap c a er s sure x) ?_ (paM_lf W e cells off len cap c a er s sure x) (paT_lf W e cells off len cap c a er s sure x)).mono fun t ⟨y, hy⟩ => ?_)
        · rw [paO_lf]; simp only [hnd0]
          exact ob_c (beq_f h6) (ob_c (beq_f h5) (hH he))
        · subst h3; exact ⟨h2, y, hy⟩
  · rw [decide_eq_false he, cond_false] at h3
    refine .inl ((pa_step hO hB1 (paL_er W e cells off len cap c a er s sure x) ?_ (paM_er W e cells off len cap c a er s sure x) (paT_er W e cells off len cap c a er s sure x)).mono fun t ⟨y, hy⟩ => ?_)
    · rw [paO_er]
      exact ob_c (beq_f he) ob_n
    · subst h3; exact ⟨h2, y, hy⟩
end
end Go.Proofs.YtgjohjgmlleebaaGreat
namespace Rx
set_option linter.all false
open Go Go.RowKit
theorem RunsB.keep {P : Program} {B : Bs} {d : Code} {t : St} {ex : Ex} {Φ : St → Prop} {ids : List Nat} {M' : List Blk} (hn : nodupB ids = true) (hM : selM t.M ids = some M') (hk : ∀ (n : Nat), n < B.M.length → ids[n]? = some n) (h : ∀ v, RunsB P B d (t.sel ids M' v) ex Φ) : RunsB P B d t ex Φ :=
  fun m _ w Q hs hg hq => h _ (m.sel ids) _ w Q (hs.sel hn hM) (hg.sel hn hM hk) hq
theorem rd_of_runsB {P : Program} {g : FuncId} {fn : Func} {c : Code} (hg : P.funcs[g]? = some fn) (hb : fn.body = some c) {cs l : List SV} {len : Nat} {vc vs : List Value} {x : SV} {v : Value} (hc : plains cs = some vc) (hl : plains l = some vs) (hx : plain x = some v) {d : Dec}
    (h : ∀ (e : TypeId) (cells : List SV) (off cap : Nat), CellsAt cells off cs → idsLts 0 cells = true → ∀ B : Bs, B.M = [⟨e, cells, .num⟩] →
      RunsB P B c ⟨(.ssl 0 off len cap :: l) ++ List.replicate (fn.ntmps - (l.length + 1)) (.tup []), [⟨e, cells, .num⟩], d, []⟩ .ret (fun t => resultS P fn t = some x ∧ ∃ rest, t.M = ⟨e, cells, .num⟩ :: rest))
    (w : World) (r off cap : Nat) (hw : RowAt w r off vc) : Calls P g (Value.slice (some ⟨r, off, none⟩) len cap :: vs).toArray w fun e w' => e = .returned v ∧ Below w.heap.size w w' := by
  obtain ⟨m, e, cells, hM, h0, hca, hid⟩ := rd_cells hc hw
  have hd : dens m (.ssl 0 off len cap :: l) = some (Value.slice (some ⟨r, off, none⟩) len cap :: vs) := dens_cons (by simp only [den, h0, Option.map_some]) (dens_plains hl)
  refine Calls.mono (RunsB.call hg hb (args := .ssl 0 off len cap :: l) (x := fun _ => x) hd hM (h e cells off cap hca hid ⟨m, [⟨e, cells, .num⟩], w, hM⟩ rfl) (fun t ht => ht.1)) fun ex w' ⟨t, m', u, ⟨_, rest, hr⟩, he, hv, hM', hgo⟩ => ?_
  rw [den_plain hx] at hv
  have := Option.some.inj hv
  subst this
  rw [hr] at hM' hgo
  exact ⟨he, Goes.read hM hgo hM'⟩
end Rx
namespace Bu
set_option linter.all false
open Rx Go
end Bu
namespace Go.Proofs.YtgjohjgmlleebaaGreat
set_option linter.all false
open Go.RowKit Bu Rx
section
variable {N : Nde} {o : List SV → Nat → Bool} (hO : OracleOk Tryz.prog (OE o N)) {e : TypeId} {cells cs : List SV} {v u : V3} {off len cap : Nat} {B : Bs} (hB1 : B.M.length = 1) (K : OkPg cs len) (hca : CellsAt cells off cs) (hB : evB N v u cs len = true)
include hO hB1 K hca hB
end
end Go.Proofs.YtgjohjgmlleebaaGreat
