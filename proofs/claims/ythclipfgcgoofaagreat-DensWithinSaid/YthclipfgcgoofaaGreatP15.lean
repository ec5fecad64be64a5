/- eval.Eval: the rounds that return an error. eval.Eval with errors: the contract. eval.Eval with errors: the known function. eval.Eval: no errors, boxes, for any right program. Widened intervals, intervals by numbers (burnishlow.widen, Span). Numbers between any two within -1 and 1; parts of vectors. Layer 11: PairsWithin, by the reckoner. Layer 11: parts of directions, plain. Parts of directions: what is told of programs. burnishlow.Prog makes right programs. layer 21: the chapter's examples; EvalCoat's run. layer 21: the chapter's examples. EvalBack by the reckoner: pieces. DensWithin by the reckoner: pieces. DensWithin by the reckoner: the run. DensMirror by the reckoner: pieces. -/
import Derived.Test.YthclipfgcgoofaaGreatP14
import Derived.Test.YthclipfgcgoofaaGreatP10
import Derived.Test.YthclipfgcgoofaaGreatP12
import Derived.Test.YthclipfgcgoofaaGreatP13
namespace Go.Proofs.YthclipfgcgoofaaGreat
set_option linter.all false
open Go.RowKit Bu Rx
def zLt : SV := .agg [.fl (toF 0), .fl (toF 0), .fl (toF 0), .fl (toF 0), .fl (toF 0), .fl (toF 0), .fl (toF 0), .fl (toF 0), .fl (toF 0), .fl (toF 0), .fl (toF 0), .fl (toF 0)]
def ndE0 (e0 : Int) (o0 t : Obs) : Obs := (e0 != 0, true) :: (e0 == 0, false) :: ((o0 ++ []) ++ t)
def ndE1 (e0 e1 : Int) (o0 o1 t : Obs) : Obs := (e1 != 0, true) :: (e1 == 0, false) :: ((o1 ++ []) ++ ((e0 == 0, true) :: ((o0 ++ []) ++ t)))
def ndE2 (e0 e1 e2 : Int) (o0 o1 o2 t : Obs) : Obs := (e2 != 0, true) :: ((o2 ++ []) ++ ((e1 == 0, true) :: ((o1 ++ []) ++ ((e0 == 0, true) :: ((o0 ++ []) ++ t)))))
section
variable (N : Nde) (o : List SV → Nat → Bool) (e : TypeId) (cells lc : List SV) (v u : V3) (off len cap n : Nat) (i : Int) (x : Nat → SV)
noncomputable abbrev ezR (d : List Bool) : St := aft Tryz.prog EG (OE o N) 60 eBd (evS0 e cells v u off len cap i x (some d))
def lfE0 (N : Nde) (v u : V3) (cells : List SV) (off : Nat) (i : Int) (k : Nat) : Int := (N.g (lfE v u k (nd0 cells off i))).2
def mxE0 (N : Nde) (cells lc : List SV) (off : Nat) (i : Int) (k : Nat) : Int := (mixC N.K ((nd0 cells off i).f 15) (lcAt lc k (nd0 cells off i).a.toNat) (lcAt lc k (nd0 cells off i).b.toNat)).2
def coI (cells : List SV) (off : Nat) (i : Int) : I := ⟨(nd0 cells off i).f 14, (nd0 cells off i).f 14⟩
def coV (N : Nde) (cells : List SV) (v : V3) (off : Nat) (i : Int) (t : Obs) : Obs := ((N.D v.z (coI cells off i)).2 != 0, true) :: ((N.D v.z (coI cells off i)).2 == 0, false) :: (((((N.D v.z (coI cells off i)).2 != 0, true) :: (N.dO v.z (coI cells off i) ++ [])) ++ [((nd0 cells off i).k == 6, true), ((nd0 cells off i).k == 5, false)]) ++ t)
def coU (N : Nde) (cells : List SV) (v u : V3) (off : Nat) (i : Int) (t : Obs) : Obs := ((N.D u.z (coI cells off i)).2 != 0, true) :: ((N.D u.z (coI cells off i)).2 == 0, false) :: (((N.dO u.z (coI cells off i) ++ (((N.D v.z (coI cells off i)).2 != 0, false) :: (N.dO v.z (coI cells off i) ++ []))) ++ [((nd0 cells off i).k == 6, true), ((nd0 cells off i).k == 5, false)]) ++ t)
theorem erL_z0 : Lands Tryz.prog EG (OE o N) 60 eBd (evS0 e cells v u off len cap i x (some ([true, false, false] ++ [false, true]))) .ret := by unfold Lands; kernel_rfl
theorem erO_z0 : (ezR N o e cells v u off len cap i x ([true, false, false] ++ [false, true])).ob = ndE0 (lfE0 N v u cells off i 0) (lfOb N v u (nd0 cells off i) 0) ([((nd0 cells off i).k == 6, false), ((nd0 cells off i).k == 5, false)] ++ (evHd cells off len i)) := by kernel_rfl
theorem erR_z0 : resultS Tryz.prog Tryz.f27 (ezR N o e cells v u off len cap i x ([true, false, false] ++ [false, true])) = some (.tup [zLt, .si .i64 (lfE0 N v u cells off i 0)]) := by kernel_rfl
theorem erM_z0 : (ezR N o e cells v u off len cap i x ([true, false, false] ++ [false, true])).M = ⟨e, cells, .num⟩ :: (ezR N o e cells v u off len cap i x ([true, false, false] ++ [false, true])).M.tail := by kernel_rfl
theorem erL_z1 : Lands Tryz.prog EG (OE o N) 60 eBd (evS0 e cells v u off len cap i x (some ([true, false, false] ++ [true, false, true]))) .ret := by unfold Lands; kernel_rfl
theorem erO_z1 : (ezR N o e cells v u off len cap i x ([true, false, false] ++ [true, false, true])).ob = ndE1 (lfE0 N v u cells off i 0) (lfE0 N v u cells off i 1) (lfOb N v u (nd0 cells off i) 0) (lfOb N v u (nd0 cells off i) 1) ([((nd0 cells off i).k == 6, false), ((nd0 cells off i).k == 5, false)] ++ (evHd cells off len i)) := by kernel_rfl
theorem erR_z1 : resultS Tryz.prog Tryz.f27 (ezR N o e cells v u off len cap i x ([true, false, false] ++ [true, false, true])) = some (.tup [zLt, .si .i64 (lfE0 N v u cells off i 1)]) := by kernel_rfl
theorem erM_z1 : (ezR N o e cells v u off len cap i x ([true, false, false] ++ [true, false, true])).M = ⟨e, cells, .num⟩ :: (ezR N o e cells v u off len cap i x ([true, false, false] ++ [true, false, true])).M.tail := by kernel_rfl
theorem erL_z2 : Lands Tryz.prog EG (OE o N) 60 eBd (evS0 e cells v u off len cap i x (some ([true, false, false] ++ [true, true, true]))) .ret := by unfold Lands; kernel_rfl
theorem erO_z2 : (ezR N o e cells v u off len cap i x ([true, false, false] ++ [true, true, true])).ob = ndE2 (lfE0 N v u cells off i 0) (lfE0 N v u cells off i 1) (lfE0 N v u cells off i 2) (lfOb N v u (nd0 cells off i) 0) (lfOb N v u (nd0 cells off i) 1) (lfOb N v u (nd0 cells off i) 2) ([((nd0 cells off i).k == 6, false), ((nd0 cells off i).k == 5, false)] ++ (evHd cells off len i)) := by kernel_rfl
theorem erR_z2 : resultS Tryz.prog Tryz.f27 (ezR N o e cells v u off len cap i x ([true, false, false] ++ [true, true, true])) = some (.tup [zLt, .si .i64 (lfE0 N v u cells off i 2)]) := by kernel_rfl
theorem erM_z2 : (ezR N o e cells v u off len cap i x ([true, false, false] ++ [true, true, true])).M = ⟨e, cells, .num⟩ :: (ezR N o e cells v u off len cap i x ([true, false, false] ++ [true, true, true])).M.tail := by kernel_rfl
theorem erL_l0 : Lands Tryz.prog EG (OE o N) 60 eBd (evS e cells lc v u off len cap n i x (some ([true, false, false] ++ [false, true]))) .ret := by unfold Lands; kernel_rfl
theorem erO_l0 : (evA N o e cells lc v u off len cap n i x ([true, false, false] ++ [false, true])).ob = ndE0 (lfE0 N v u cells off i 0) (lfOb N v u (nd0 cells off i) 0) ([((nd0 cells off i).k == 6, false), ((nd0 cells off i).k == 5, false)] ++ (evHd cells off len i)) := by kernel_rfl
theorem erR_l0 : resultS Tryz.prog Tryz.f27 (evA N o e cells lc v u off len cap n i x ([true, false, false] ++ [false, true])) = some (.tup [zLt, .si .i64 (lfE0 N v u cells off i 0)]) := by kernel_rfl
theorem erM_l0 : (evA N o e cells lc v u off len cap n i x ([true, false, false] ++ [false, true])).M = ⟨e, cells, .num⟩ :: (evA N o e cells lc v u off len cap n i x ([true, false, false] ++ [false, true])).M.tail := by kernel_rfl
theorem erL_l1 : Lands Tryz.prog EG (OE o N) 60 eBd (evS e cells lc v u off len cap n i x (some ([true, false, false] ++ [true, false, true]))) .ret := by unfold Lands; kernel_rfl
theorem erO_l1 : (evA N o e cells lc v u off len cap n i x ([true, false, false] ++ [true, false, true])).ob = ndE1 (lfE0 N v u cells off i 0) (lfE0 N v u cells off i 1) (lfOb N v u (nd0 cells off i) 0) (lfOb N v u (nd0 cells off i) 1) ([((nd0 cells off i).k == 6, false), ((nd0 cells off i).k == 5, false)] ++ (evHd cells off len i)) := by kernel_rfl
theorem erR_l1 : resultS Tryz.prog Tryz.f27 (evA N o e cells lc v u off len cap n i x ([true, false, false] ++ [true, false, true])) = some (.tup [zLt, .si .i64 (lfE0 N v u cells off i 1)]) := by kernel_rfl
theorem erM_l1 : (evA N o e cells lc v u off len cap n i x ([true, false, false] ++ [true, false, true])).M = ⟨e, cells, .num⟩ :: (evA N o e cells lc v u off len cap n i x ([true, false, false] ++ [true, false, true])).M.tail := by kernel_rfl
theorem erL_l2 : Lands Tryz.prog EG (OE o N) 60 eBd (evS e cells lc v u off len cap n i x (some ([true, false, false] ++ [true, true, true]))) .ret := by unfold Lands; kernel_rfl
theorem erO_l2 : (evA N o e cells lc v u off len cap n i x ([true, false, false] ++ [true, true, true])).ob = ndE2 (lfE0 N v u cells off i 0) (lfE0 N v u cells off i 1) (lfE0 N v u cells off i 2) (lfOb N v u (nd0 cells off i) 0) (lfOb N v u (nd0 cells off i) 1) (lfOb N v u (nd0 cells off i) 2) ([((nd0 cells off i).k == 6, false), ((nd0 cells off i).k == 5, false)] ++ (evHd cells off len i)) := by kernel_rfl
theorem erR_l2 : resultS Tryz.prog Tryz.f27 (evA N o e cells lc v u off len cap n i x ([true, false, false] ++ [true, true, true])) = some (.tup [zLt, .si .i64 (lfE0 N v u cells off i 2)]) := by kernel_rfl
theorem erM_l2 : (evA N o e cells lc v u off len cap n i x ([true, false, false] ++ [true, true, true])).M = ⟨e, cells, .num⟩ :: (evA N o e cells lc v u off len cap n i x ([true, false, false] ++ [true, true, true])).M.tail := by kernel_rfl
theorem erL_m0 : Lands Tryz.prog EG (OE o N) 60 eBd (evS e cells lc v u off len cap n i x (some ([true, true] ++ [false, true]))) .ret := by unfold Lands; kernel_rfl
theorem erO_m0 : (evA N o e cells lc v u off len cap n i x ([true, true] ++ [false, true])).ob = ndE0 (mxE0 N cells lc off i 0) (rdOb lc n (nd0 cells off i).b 0 ++ rdOb lc n (nd0 cells off i).a 0) ([((nd0 cells off i).k == 5, true)] ++ (evHd cells off len i)) := by kernel_rfl
theorem erR_m0 : resultS Tryz.prog Tryz.f27 (evA N o e cells lc v u off len cap n i x ([true, true] ++ [false, true])) = some (.tup [zLt, .si .i64 (mxE0 N cells lc off i 0)]) := by kernel_rfl
theorem erM_m0 : (evA N o e cells lc v u off len cap n i x ([true, true] ++ [false, true])).M = ⟨e, cells, .num⟩ :: (evA N o e cells lc v u off len cap n i x ([true, true] ++ [false, true])).M.tail := by kernel_rfl
theorem erL_m1 : Lands Tryz.prog EG (OE o N) 60 eBd (evS e cells lc v u off len cap n i x (some ([true, true] ++ [true, false, true]))) .ret := by unfold Lands; kernel_rfl
theorem erO_m1 : (evA N o e cells lc v u off len cap n i x ([true, true] ++ [true, false, true])).ob = ndE1 (mxE0 N cells lc off i 0) (mxE0 N cells lc off i 1) (rdOb lc n (nd0 cells off i).b 0 ++ rdOb lc n (nd0 cells off i).a 0) (rdOb lc n (nd0 cells off i).b 1 ++ rdOb lc n (nd0 cells off i).a 1) ([((nd0 cells off i).k == 5, true)] ++ (evHd cells off len i)) := by kernel_rfl
theorem erR_m1 : resultS Tryz.prog Tryz.f27 (evA N o e cells lc v u off len cap n i x ([true, true] ++ [true, false, true])) = some (.tup [zLt, .si .i64 (mxE0 N cells lc off i 1)]) := by kernel_rfl
theorem erM_m1 : (evA N o e cells lc v u off len cap n i x ([true, true] ++ [true, false, true])).M = ⟨e, cells, .num⟩ :: (evA N o e cells lc v u off len cap n i x ([true, true] ++ [true, false, true])).M.tail := by kernel_rfl
theorem erL_m2 : Lands Tryz.prog EG (OE o N) 60 eBd (evS e cells lc v u off len cap n i x (some ([true, true] ++ [true, true, true]))) .ret := by unfold Lands; kernel_rfl
theorem erO_m2 : (evA N o e cells lc v u off len cap n i x ([true, true] ++ [true, true, true])).ob = ndE2 (mxE0 N cells lc off i 0) (mxE0 N cells lc off i 1) (mxE0 N cells lc off i 2) (rdOb lc n (nd0 cells off i).b 0 ++ rdOb lc n (nd0 cells off i).a 0) (rdOb lc n (nd0 cells off i).b 1 ++ rdOb lc n (nd0 cells off i).a 1) (rdOb lc n (nd0 cells off i).b 2 ++ rdOb lc n (nd0 cells off i).a 2) ([((nd0 cells off i).k == 5, true)] ++ (evHd cells off len i)) := by kernel_rfl
theorem erR_m2 : resultS Tryz.prog Tryz.f27 (evA N o e cells lc v u off len cap n i x ([true, true] ++ [true, true, true])) = some (.tup [zLt, .si .i64 (mxE0 N cells lc off i 2)]) := by kernel_rfl
theorem erM_m2 : (evA N o e cells lc v u off len cap n i x ([true, true] ++ [true, true, true])).M = ⟨e, cells, .num⟩ :: (evA N o e cells lc v u off len cap n i x ([true, true] ++ [true, true, true])).M.tail := by kernel_rfl
theorem erL_cv : Lands Tryz.prog EG (OE o N) 60 eBd (evS e cells lc v u off len cap n i x (some ([true, false, true] ++ [true, false, true]))) .ret := by unfold Lands; kernel_rfl
theorem erO_cv : (evA N o e cells lc v u off len cap n i x ([true, false, true] ++ [true, false, true])).ob = coV N cells v off i (evHd cells off len i) := by kernel_rfl
theorem erR_cv : resultS Tryz.prog Tryz.f27 (evA N o e cells lc v u off len cap n i x ([true, false, true] ++ [true, false, true])) = some (.tup [zLt, .si .i64 (N.D v.z (coI cells off i)).2]) := by kernel_rfl
theorem erM_cv : (evA N o e cells lc v u off len cap n i x ([true, false, true] ++ [true, false, true])).M = ⟨e, cells, .num⟩ :: (evA N o e cells lc v u off len cap n i x ([true, false, true] ++ [true, false, true])).M.tail := by kernel_rfl
theorem erL_cu : Lands Tryz.prog EG (OE o N) 60 eBd (evS e cells lc v u off len cap n i x (some ([true, false, true] ++ [false, false, true]))) .ret := by unfold Lands; kernel_rfl
theorem erO_cu : (evA N o e cells lc v u off len cap n i x ([true, false, true] ++ [false, false, true])).ob = coU N cells v u off i (evHd cells off len i) := by kernel_rfl
theorem erR_cu : resultS Tryz.prog Tryz.f27 (evA N o e cells lc v u off len cap n i x ([true, false, true] ++ [false, false, true])) = some (.tup [zLt, .si .i64 (N.D u.z (coI cells off i)).2]) := by kernel_rfl
theorem erM_cu : (evA N o e cells lc v u off len cap n i x ([true, false, true] ++ [false, false, true])).M = ⟨e, cells, .num⟩ :: (evA N o e cells lc v u off len cap n i x ([true, false, true] ++ [false, false, true])).M.tail := by kernel_rfl
theorem erL_c0 : Lands Tryz.prog EG (OE o N) 60 eBd (evS e cells lc v u off len cap n i x (some ([true, false, true, false, true] ++ [false, true]))) .ret := by unfold Lands; kernel_rfl
theorem erO_c0 : (evA N o e cells lc v u off len cap n i x ([true, false, true, false, true] ++ [false, true])).ob = ndE0 ((ovE N cells lc v u off i 0).2) (rdOb lc n (nd0 cells off i).a 0) (coO N cells v u off i (evHd cells off len i)) := by kernel_rfl
theorem erR_c0 : resultS Tryz.prog Tryz.f27 (evA N o e cells lc v u off len cap n i x ([true, false, true, false, true] ++ [false, true])) = some (.tup [zLt, .si .i64 ((ovE N cells lc v u off i 0).2)]) := by kernel_rfl
theorem erM_c0 : (evA N o e cells lc v u off len cap n i x ([true, false, true, false, true] ++ [false, true])).M = ⟨e, cells, .num⟩ :: (evA N o e cells lc v u off len cap n i x ([true, false, true, false, true] ++ [false, true])).M.tail := by kernel_rfl
theorem erL_c1 : Lands Tryz.prog EG (OE o N) 60 eBd (evS e cells lc v u off len cap n i x (some ([true, false, true, false, true] ++ [true, false, true]))) .ret := by unfold Lands; kernel_rfl
theorem erO_c1 : (evA N o e cells lc v u off len cap n i x ([true, false, true, false, true] ++ [true, false, true])).ob = ndE1 ((ovE N cells lc v u off i 0).2) ((ovE N cells lc v u off i 1).2) (rdOb lc n (nd0 cells off i).a 0) (rdOb lc n (nd0 cells off i).a 1) (coO N cells v u off i (evHd cells off len i)) := by kernel_rfl
theorem erR_c1 : resultS Tryz.prog Tryz.f27 (evA N o e cells lc v u off len cap n i x ([true, false, true, false, true] ++ [true, false, true])) = some (.tup [zLt, .si .i64 ((ovE N cells lc v u off i 1).2)]) := by kernel_rfl
theorem erM_c1 : (evA N o e cells lc v u off len cap n i x ([true, false, true, false, true] ++ [true, false, true])).M = ⟨e, cells, .num⟩ :: (evA N o e cells lc v u off len cap n i x ([true, false, true, false, true] ++ [true, false, true])).M.tail := by kernel_rfl
theorem erL_c2 : Lands Tryz.prog EG (OE o N) 60 eBd (evS e cells lc v u off len cap n i x (some ([true, false, true, false, true] ++ [true, true, true]))) .ret := by unfold Lands; kernel_rfl
theorem erO_c2 : (evA N o e cells lc v u off len cap n i x ([true, false, true, false, true] ++ [true, true, true])).ob = ndE2 ((ovE N cells lc v u off i 0).2) ((ovE N cells lc v u off i 1).2) ((ovE N cells lc v u off i 2).2) (rdOb lc n (nd0 cells off i).a 0) (rdOb lc n (nd0 cells off i).a 1) (rdOb lc n (nd0 cells off i).a 2) (coO N cells v u off i (evHd cells off len i)) := by kernel_rfl
theorem erR_c2 : resultS Tryz.prog Tryz.f27 (evA N o e cells lc v u off len cap n i x ([true, false, true, false, true] ++ [true, true, true])) = some (.tup [zLt, .si .i64 ((ovE N cells lc v u off i 2).2)]) := by kernel_rfl
theorem erM_c2 : (evA N o e cells lc v u off len cap n i x ([true, false, true, false, true] ++ [true, true, true])).M = ⟨e, cells, .num⟩ :: (evA N o e cells lc v u off len cap n i x ([true, false, true, false, true] ++ [true, true, true])).M.tail := by kernel_rfl
end
def fst3 (a b c : Int) : Int := bif decide (a = 0) then (bif decide (b = 0) then c else b) else a
def evEr (N : Nde) (v u : V3) (l : Nat → Nat → Ch) (n : Nd) : Int :=
  bif decide (n.k = 6) then
    bif decide ((N.D v.z ⟨n.f 14, n.f 14⟩).2 = 0) then
      bif decide ((N.D u.z ⟨n.f 14, n.f 14⟩).2 = 0) then fst3 (evN N v u 0 (l 0) n).2 (evN N v u 1 (l 1) n).2 (evN N v u 2 (l 2) n).2
      else (N.D u.z ⟨n.f 14, n.f 14⟩).2
    else (N.D v.z ⟨n.f 14, n.f 14⟩).2
  else fst3 (evN N v u 0 (l 0) n).2 (evN N v u 1 (l 1) n).2 (evN N v u 2 (l 2) n).2
def evPB (N : Nde) (v u : V3) (n : Nd) : Bool :=
  bif decide (n.k = 5) then true
  else bif decide (n.k = 6) then Bu.obsB (N.dO v.z ⟨n.f 14, n.f 14⟩) && Bu.obsB (N.dO u.z ⟨n.f 14, n.f 14⟩)
  else Bu.obsB (lfOb N v u n 0) && (Bu.obsB (lfOb N v u n 1) && Bu.obsB (lfOb N v u n 2))
def evL (N : Nde) (v u : V3) (cs : List SV) (i : Nat) : Nat → Nat → Ch := fun k j => (chL (allE N v u cs k) i).getD j Ch.zero
def evF (N : Nde) (v u : V3) (cs : List SV) (i : Nat) : Int := evEr N v u (evL N v u cs i) (ndR cs (i * 19))
def evE (N : Nde) (v u : V3) (cs : List SV) : Nat → Int
  | 0 => 0
  | i + 1 => bif decide (evE N v u cs i = 0) then evF N v u cs i else evE N v u cs i
def evPs (N : Nde) (v u : V3) (cs : List SV) (len : Nat) : Bool := (List.range len).all fun i => evPB N v u (ndR cs (i * 19))
theorem evPs_at {N : Nde} {v u : V3} {cs : List SV} {len : Nat} (h : evPs N v u cs len = true) {i : Nat} (hi : i < len) : evPB N v u (ndR cs (i * 19)) = true := List.all_eq_true.1 h i (List.mem_range.2 hi)
theorem fst3_0 {a b c : Int} (h : fst3 a b c = 0) : a = 0 ∧ b = 0 ∧ c = 0 := by
  unfold fst3 at h
  by_cases ha : a = 0
  · rw [decide_eq_true ha, cond_true] at h
    by_cases hb : b = 0
    · rw [decide_eq_true hb, cond_true] at h; exact ⟨ha, hb, h⟩
    · rw [decide_eq_false hb, cond_false] at h; exact absurd h hb
  · rw [decide_eq_false ha, cond_false] at h; exact absurd h ha
theorem fst3_n {a b c : Int} (h : fst3 a b c ≠ 0) : (a ≠ 0 ∧ fst3 a b c = a) ∨ (a = 0 ∧ b ≠ 0 ∧ fst3 a b c = b) ∨ (a = 0 ∧ b = 0 ∧ c ≠ 0 ∧ fst3 a b c = c) := by
  unfold fst3 at h ⊢
  by_cases ha : a = 0
  · rw [decide_eq_true ha, cond_true] at h ⊢
    by_cases hb : b = 0
    · rw [decide_eq_true hb, cond_true] at h ⊢; exact .inr (.inr ⟨ha, hb, h, rfl⟩)
    · rw [decide_eq_false hb, cond_false] at h ⊢; exact .inr (.inl ⟨ha, h, rfl⟩)
  · rw [decide_eq_false ha, cond_false] at h ⊢; exact .inl ⟨h, rfl⟩
theorem evNB_of {N : Nde} {v u : V3} {l : Nat → Nat → Ch} {n : Nd} (h : evEr N v u l n = 0) (p : evPB N v u n = true) : evNB N v u l n = true := by
  unfold evEr at h
  unfold evPB at p
  unfold evNB
  by_cases h5 : n.k = 5
  · rw [decide_eq_false (show n.k ≠ 6 by omega), cond_false] at h
    obtain ⟨a, b, c⟩ := fst3_0 h
    rw [decide_eq_true h5, cond_true, decide_eq_true a, decide_eq_true b, decide_eq_true c]; rfl
  · by_cases h6 : n.k = 6
    · rw [decide_eq_true h6, cond_true] at h
      rw [decide_eq_false h5, cond_false, decide_eq_true h6, cond_true, Bool.and_eq_true] at p
      by_cases d1 : (N.D v.z ⟨n.f 14, n.f 14⟩).2 = 0
      · rw [decide_eq_true d1, cond_true] at h
        by_cases d2 : (N.D u.z ⟨n.f 14, n.f 14⟩).2 = 0
        · rw [decide_eq_true d2, cond_true] at h
          obtain ⟨a, b, c⟩ := fst3_0 h
          rw [decide_eq_false h5, decide_eq_true h6, cond_false, cond_true, p.1, p.2, decide_eq_true d1, decide_eq_true d2, decide_eq_true a, decide_eq_true b, decide_eq_true c]; rfl
        · rw [decide_eq_false d2, cond_false] at h; exact absurd h d2
      · rw [decide_eq_false d1, cond_false] at h; exact absurd h d1
    · rw [decide_eq_false h6, cond_false] at h
      rw [decide_eq_false h5, decide_eq_false h6, cond_false, cond_false] at p
      obtain ⟨a, b, c⟩ := fst3_0 h
      rw [decide_eq_false h5, decide_eq_false h6, cond_false, cond_false, p, decide_eq_true a, decide_eq_true b, decide_eq_true c]; rfl
theorem ndE0_ok {e0 : Int} {o0 t : Obs} (h : e0 ≠ 0) (k0 : ObsOk o0) (ht : ObsOk t) : ObsOk (ndE0 e0 o0 t) := ob_c (by simpa using h) (ob_c (beq_f h) (ob_a (ob_a k0 ob_n) ht))
theorem ndE1_ok {e0 e1 : Int} {o0 o1 t : Obs} (h0 : e0 = 0) (h : e1 ≠ 0) (k0 : ObsOk o0) (k1 : ObsOk o1) (ht : ObsOk t) : ObsOk (ndE1 e0 e1 o0 o1 t) := ob_c (by simpa using h) (ob_c (beq_f h) (ob_a (ob_a k1 ob_n) (ob_c (beq_t h0) (ob_a (ob_a k0 ob_n) ht))))
theorem ndE2_ok {e0 e1 e2 : Int} {o0 o1 o2 t : Obs} (h0 : e0 = 0) (h1 : e1 = 0) (h : e2 ≠ 0) (k0 : ObsOk o0) (k1 : ObsOk o1) (k2 : ObsOk o2) (ht : ObsOk t) : ObsOk (ndE2 e0 e1 e2 o0 o1 o2 t) := ob_c (by simpa using h) (ob_a (ob_a k2 ob_n) (ob_c (beq_t h1) (ob_a (ob_a k1 ob_n) (ob_c (beq_t h0) (ob_a (ob_a k0 ob_n) ht)))))
def RetE (e : TypeId) (cells : List SV) (er : Int) (t : St) : Prop := resultS Tryz.prog Tryz.f27 t = some (.tup [zLt, .si .i64 er]) ∧ ∃ rest, t.M = ⟨e, cells, .num⟩ :: rest
section
variable {N : Nde} {o : List SV → Nat → Bool} (hO : OracleOk Tryz.prog (OE o N)) {e : TypeId} {cells cs : List SV} {v u : V3} {off len cap i : Nat} {x : Nat → SV} {B : Bs} (K : OkPg cs len) (hca : CellsAt cells off cs) (hP : evPs N v u cs len = true) (hi : i < len) (hE : evF N v u cs i ≠ 0)
include hO K hca hP hi hE
theorem er_round : RunsB Tryz.prog B eBd (evS e cells (lights (ltF N v u cs) i) v u off len cap i (i : Int) x none) .ret (RetE e cells (evF N v u cs i)) := by
  obtain ⟨hck, hnr⟩ := K.at hca hi
  have hnd0 : nd0 cells off (i : Int) = ndR cs (i * 19) := by unfold nd0; rw [Int.toNat_natCast]; exact hnr
  have hH := evHd_ok (len := len) hck hi
  have p := evPs_at hP hi
  have hnd := K.nd i hi
  have g : ∀ {a : Int} (k : Nat), 0 ≤ a → a < i → evL N v u cs i k a.toNat = ltF N v u cs k a.toNat := fun _ _ _ => chL_get _ (by omega)
  have gl : ∀ {a : Int} (k : Nat), k < 3 → 0 ≤ a → a < i → lcAt (lights (ltF N v u cs) i) k a.toNat = ltF N v u cs k a.toNat := fun k h3 h0 h1 => (lc_at (lights_at (ltF N v u cs) (by omega)) k h3).1
  have fin : ∀ {d : List Bool} {er : Int} {ob : Obs}, er = evF N v u cs i → Lands Tryz.prog EG (OE o N) 60 eBd (evS e cells (lights (ltF N v u cs) i) v u off len cap i (i : Int) x (some d)) .ret → (evA N o e cells (lights (ltF N v u cs) i) v u off len cap i (i : Int) x d).ob = ob → ObsOk ob →
      resultS Tryz.prog Tryz.f27 (evA N o e cells (lights (ltF N v u cs) i) v u off len cap i (i : Int) x d) = some (.tup [zLt, .si .i64 er]) → (evA N o e cells (lights (ltF N v u cs) i) v u off len cap i (i : Int) x d).M = ⟨e, cells, .num⟩ :: (evA N o e cells (lights (ltF N v u cs) i) v u off len cap i (i : Int) x d).M.tail →
      RunsB Tryz.prog B eBd (evS e cells (lights (ltF N v u cs) i) v u off len cap i (i : Int) x none) .ret (RetE e cells (evF N v u cs i)) := fun {d er ob} he hL hb ho hr hM => by
    subst he
    exact RunsB.re (d := some d) (o := []) (RunsP.bs (Lands.all goodG hO hL (hb ▸ ho) ⟨hr, _, hM⟩))
  have hF : evF N v u cs i = evEr N v u (evL N v u cs i) (ndR cs (i * 19)) := rfl
  have hE' := hE
  rw [hF] at hE'
  generalize hgn : ndR cs (i * 19) = n at hnd hnd0 p hF hE'
  unfold evEr at hF hE'
  unfold evPB at p
  by_cases h5 : n.k = 5
  · obtain ⟨⟨a0, a1⟩, c0, c1⟩ := okNd_mix hnd h5
    rw [decide_eq_false (show n.k ≠ 6 by omega), cond_false] at hF hE'
    have ev : ∀ k, k < 3 → mixC N.K (n.f 15) (lcAt (lights (ltF N v u cs) i) k n.a.toNat) (lcAt (lights (ltF N v u cs) i) k n.b.toNat) = evN N v u k (evL N v u cs i k) n := fun k h3 => by
      unfold evN
      rw [decide_eq_true h5, cond_true, gl k h3 a0 a1, gl k h3 c0 c1]
      show _ = mixC N.K (n.f 15) (evL N v u cs i k n.a.toNat) (evL N v u cs i k n.b.toNat)
      rw [g k a0 a1, g k c0 c1]
    have em : ∀ k, k < 3 → mxE0 N cells (lights (ltF N v u cs) i) off (i : Int) k = (evN N v u k (evL N v u cs i k) n).2 := fun k h3 => by unfold mxE0; rw [hnd0, ev k h3]
    have oR : ∀ k, k < 3 → ObsOk (rdOb (lights (ltF N v u cs) i) i (nd0 cells off (i : Int)).b k ++ rdOb (lights (ltF N v u cs) i) i (nd0 cells off (i : Int)).a k) := fun k h3 => by rw [hnd0]; exact ob_a (rdOb_ok c0 c1 h3) (rdOb_ok a0 a1 h3)
    have oT : ObsOk ([((nd0 cells off (i : Int)).k == 5, true)] ++ evHd cells off len (i : Int)) := by rw [hnd0]; exact ob_a (ob_c (beq_t h5) ob_n) hH
    rcases fst3_n hE' with ⟨a, q⟩ | ⟨z0, a, q⟩ | ⟨z0, z1, a, q⟩
    · exact fin (by rw [hF, q, em 0 (by decide)]) (erL_m0 N o e cells _ v u off len cap i (i : Int) x) (erO_m0 N o e cells _ v u off len cap i (i : Int) x) (ndE0_ok (by rw [em 0 (by decide)]; exact a) (oR 0 (by decide)) oT) (erR_m0 N o e cells _ v u off len cap i (i : Int) x) (erM_m0 N o e cells _ v u off len cap i (i : Int) x)
    · exact fin (by rw [hF, q, em 1 (by decide)]) (erL_m1 N o e cells _ v u off len cap i (i : Int) x) (erO_m1 N o e cells _ v u off len cap i (i : Int) x) (ndE1_ok (by rw [em 0 (by decide)]; exact z0) (by rw [em 1 (by decide)]; exact a) (oR 0 (by decide)) (oR 1 (by decide)) oT) (erR_m1 N o e cells _ v u off len cap i (i : Int) x) (erM_m1 N o e cells _ v u off len cap i (i : Int) x)
    · exact fin (by rw [hF, q, em 2 (by decide)]) (erL_m2 N o e cells _ v u off len cap i (i : Int) x) (erO_m2 N o e cells _ v u off len cap i (i : Int) x) (ndE2_ok (by rw [em 0 (by decide)]; exact z0) (by rw [em 1 (by decide)]; exact z1) (by rw [em 2 (by decide)]; exact a) (oR 0 (by decide)) (oR 1 (by decide)) (oR 2 (by decide)) oT) (erR_m2 N o e cells _ v u off len cap i (i : Int) x) (erM_m2 N o e cells _ v u off len cap i (i : Int) x)
  by_cases h6 : n.k = 6
  · obtain ⟨a0, a1⟩ := okNd_coat hnd h6
    rw [decide_eq_true h6, cond_true] at hF hE'
    rw [decide_eq_false h5, cond_false, decide_eq_true h6, cond_true, Bool.and_eq_true] at p
    have pv : ObsOk (N.dO v.z ⟨n.f 14, n.f 14⟩) := Bu.obsB_ok p.1
    have pu : ObsOk (N.dO u.z ⟨n.f 14, n.f 14⟩) := Bu.obsB_ok p.2
    have hI : coI cells off (i : Int) = ⟨n.f 14, n.f 14⟩ := by unfold coI; rw [hnd0]
    have o56 : ObsOk [((nd0 cells off (i : Int)).k == 6, true), ((nd0 cells off (i : Int)).k == 5, false)] := by rw [hnd0]; exact ob_c (beq_t h6) (ob_c (beq_f h5) ob_n)
    by_cases d1 : (N.D v.z ⟨n.f 14, n.f 14⟩).2 = 0
    · rw [decide_eq_true d1, cond_true] at hF hE'
      by_cases d2 : (N.D u.z ⟨n.f 14, n.f 14⟩).2 = 0
      · rw [decide_eq_true d2, cond_true] at hF hE'
        have ev : ∀ k, k < 3 → overC N.K (N.D v.z ⟨n.f 14, n.f 14⟩).1 (N.D u.z ⟨n.f 14, n.f 14⟩).1 (n.f (3 + k)) (lcAt (lights (ltF N v u cs) i) k n.a.toNat) = evN N v u k (evL N v u cs i k) n := fun k h3 => by
          unfold evN
          rw [decide_eq_false h5, decide_eq_true h6, cond_false, cond_true, gl k h3 a0 a1]
          show _ = overC N.K (N.D v.z ⟨n.f 14, n.f 14⟩).1 (N.D u.z ⟨n.f 14, n.f 14⟩).1 (n.f (3 + k)) (evL N v u cs i k n.a.toNat)
          rw [g k a0 a1]
        have em : ∀ k, k < 3 → (ovE N cells (lights (ltF N v u cs) i) v u off (i : Int) k).2 = (evN N v u k (evL N v u cs i k) n).2 := fun k h3 => by unfold ovE; rw [hnd0, ev k h3]
        have oR : ∀ k, k < 3 → ObsOk (rdOb (lights (ltF N v u cs) i) i (nd0 cells off (i : Int)).a k) := fun k h3 => by rw [hnd0]; exact rdOb_ok a0 a1 h3
        have oT : ObsOk (coO N cells v u off (i : Int) (evHd cells off len (i : Int))) := by
          unfold coO
          rw [hnd0]
          exact ob_c (beq_t d2) (ob_a (ob_a (ob_a pu (ob_c (ne_0 d1) (ob_a pv ob_n))) (ob_c (beq_t h6) (ob_c (beq_f h5) ob_n))) hH)
        rcases fst3_n hE' with ⟨a, q⟩ | ⟨z0, a, q⟩ | ⟨z0, z1, a, q⟩
        · exact fin (by rw [hF, q, em 0 (by decide)]) (erL_c0 N o e cells _ v u off len cap i (i : Int) x) (erO_c0 N o e cells _ v u off len cap i (i : Int) x) (ndE0_ok (by rw [em 0 (by decide)]; exact a) (oR 0 (by decide)) oT) (erR_c0 N o e cells _ v u off len cap i (i : Int) x) (erM_c0 N o e cells _ v u off len cap i (i : Int) x)
        · exact fin (by rw [hF, q, em 1 (by decide)]) (erL_c1 N o e cells _ v u off len cap i (i : Int) x) (erO_c1 N o e cells _ v u off len cap i (i : Int) x) (ndE1_ok (by rw [em 0 (by decide)]; exact z0) (by rw [em 1 (by decide)]; exact a) (oR 0 (by decide)) (oR 1 (by decide)) oT) (erR_c1 N o e cells _ v u off len cap i (i : Int) x) (erM_c1 N o e cells _ v u off len cap i (i : Int) x)
        · exact fin (by rw [hF, q, em 2 (by decide)]) (erL_c2 N o e cells _ v u off len cap i (i : Int) x) (erO_c2 N o e cells _ v u off len cap i (i : Int) x) (ndE2_ok (by rw [em 0 (by decide)]; exact z0) (by rw [em 1 (by decide)]; exact z1) (by rw [em 2 (by decide)]; exact a) (oR 0 (by decide)) (oR 1 (by decide)) (oR 2 (by decide)) oT) (erR_c2 N o e cells _ v u off len cap i (i : Int) x) (erM_c2 N o e cells _ v u off len cap i (i : Int) x)
      · rw [decide_eq_false d2, cond_false] at hF
        refine fin (by rw [hF, hI]) (erL_cu N o e cells _ v u off len cap i (i : Int) x) (erO_cu N o e cells _ v u off len cap i (i : Int) x) ?_ (erR_cu N o e cells _ v u off len cap i (i : Int) x) (erM_cu N o e cells _ v u off len cap i (i : Int) x)
        unfold coU
        rw [hI]
        exact ob_c (by simpa using d2) (ob_c (beq_f d2) (ob_a (ob_a (ob_a pu (ob_c (ne_0 d1) (ob_a pv ob_n))) o56) hH))
    · rw [decide_eq_false d1, cond_false] at hF
      refine fin (by rw [hF, hI]) (erL_cv N o e cells _ v u off len cap i (i : Int) x) (erO_cv N o e cells _ v u off len cap i (i : Int) x) ?_ (erR_cv N o e cells _ v u off len cap i (i : Int) x) (erM_cv N o e cells _ v u off len cap i (i : Int) x)
      unfold coV
      rw [hI]
      exact ob_c (by simpa using d1) (ob_c (beq_f d1) (ob_a (ob_a (ob_c (by simpa using d1) (ob_a pv ob_n)) o56) hH))
  · rw [decide_eq_false h6, cond_false] at hF hE'
    rw [decide_eq_false h5, decide_eq_false h6, cond_false, cond_false] at p
    simp only [Bool.and_eq_true] at p
    obtain ⟨l0, l1, l2⟩ := p
    have em : ∀ k, lfE0 N v u cells off (i : Int) k = (evN N v u k (evL N v u cs i k) n).2 := fun k => by
      unfold lfE0 evN
      rw [hnd0, decide_eq_false h5, decide_eq_false h6, cond_false, cond_false]
    have o0 : ObsOk (lfOb N v u (nd0 cells off (i : Int)) 0) := by rw [hnd0]; exact Bu.obsB_ok l0
    have o1 : ObsOk (lfOb N v u (nd0 cells off (i : Int)) 1) := by rw [hnd0]; exact Bu.obsB_ok l1
    have o2 : ObsOk (lfOb N v u (nd0 cells off (i : Int)) 2) := by rw [hnd0]; exact Bu.obsB_ok l2
    have oT : ObsOk ([((nd0 cells off (i : Int)).k == 6, false), ((nd0 cells off (i : Int)).k == 5, false)] ++ evHd cells off len (i : Int)) := by rw [hnd0]; exact ob_a (ob_c (beq_f h6) (ob_c (beq_f h5) ob_n)) hH
    rcases fst3_n hE' with ⟨a, q⟩ | ⟨z0, a, q⟩ | ⟨z0, z1, a, q⟩
    · exact fin (by rw [hF, q, em 0]) (erL_l0 N o e cells _ v u off len cap i (i : Int) x) (erO_l0 N o e cells _ v u off len cap i (i : Int) x) (ndE0_ok (by rw [em 0]; exact a) o0 oT) (erR_l0 N o e cells _ v u off len cap i (i : Int) x) (erM_l0 N o e cells _ v u off len cap i (i : Int) x)
    · exact fin (by rw [hF, q, em 1]) (erL_l1 N o e cells _ v u off len cap i (i : Int) x) (erO_l1 N o e cells _ v u off len cap i (i : Int) x) (ndE1_ok (by rw [em 0]; exact z0) (by rw [em 1]; exact a) o0 o1 oT) (erR_l1 N o e cells _ v u off len cap i (i : Int) x) (erM_l1 N o e cells _ v u off len cap i (i : Int) x)
    · exact fin (by rw [hF, q, em 2]) (erL_l2 N o e cells _ v u off len cap i (i : Int) x) (erO_l2 N o e cells _ v u off len cap i (i : Int) x) (ndE2_ok (by rw [em 0]; exact z0) (by rw [em 1]; exact z1) (by rw [em 2]; exact a) o0 o1 o2 oT) (erR_l2 N o e cells _ v u off len cap i (i : Int) x) (erM_l2 N o e cells _ v u off len cap i (i : Int) x)
end
section
variable {N : Nde} {o : List SV → Nat → Bool} (hO : OracleOk Tryz.prog (OE o N)) {e : TypeId} {cells cs : List SV} {v u : V3} {off len cap : Nat} {x : Nat → SV} {B : Bs} (K : OkPg cs len) (hca : CellsAt cells off cs) (hP : evPs N v u cs len = true) (hE : evF N v u cs 0 ≠ 0)
include hO K hca hP hE
theorem er_first : RunsB Tryz.prog B eBd (evS0 e cells v u off len cap ((0 : Nat) : Int) x none) .ret (RetE e cells (evF N v u cs 0)) := by
  have hi : 0 < len := K.lo
  obtain ⟨hck, hnr⟩ := K.at hca hi
  have hnd0 : nd0 cells off ((0 : Nat) : Int) = ndR cs (0 * 19) := by unfold nd0; rw [Int.toNat_natCast]; exact hnr
  have hH := evHd_ok (len := len) hck hi
  have p := evPs_at hP hi
  have hnd := K.nd 0 hi
  have fin : ∀ {d : List Bool} {er : Int} {ob : Obs}, er = evF N v u cs 0 → Lands Tryz.prog EG (OE o N) 60 eBd (evS0 e cells v u off len cap ((0 : Nat) : Int) x (some d)) .ret → (ezR N o e cells v u off len cap ((0 : Nat) : Int) x d).ob = ob → ObsOk ob →
      resultS Tryz.prog Tryz.f27 (ezR N o e cells v u off len cap ((0 : Nat) : Int) x d) = some (.tup [zLt, .si .i64 er]) → (ezR N o e cells v u off len cap ((0 : Nat) : Int) x d).M = ⟨e, cells, .num⟩ :: (ezR N o e cells v u off len cap ((0 : Nat) : Int) x d).M.tail →
      RunsB Tryz.prog B eBd (evS0 e cells v u off len cap ((0 : Nat) : Int) x none) .ret (RetE e cells (evF N v u cs 0)) := fun {d er ob} he hL hb ho hr hM => by
    subst he
    exact RunsB.re (d := some d) (o := []) (RunsP.bs (Lands.all goodG hO hL (hb ▸ ho) ⟨hr, _, hM⟩))
  have hF : evF N v u cs 0 = evEr N v u (evL N v u cs 0) (ndR cs (0 * 19)) := rfl
  have hE' := hE
  rw [hF] at hE'
  generalize hgn : ndR cs (0 * 19) = n at hnd hnd0 p hF hE'
  unfold evEr at hF hE'
  unfold evPB at p
  have h5 : n.k ≠ 5 := fun h5 => by
    obtain ⟨⟨a0, a1⟩, _⟩ := okNd_mix hnd h5
    have : ((0 : Nat) : Int) = 0 := rfl
    omega
  have h6 : n.k ≠ 6 := fun h6 => by
    obtain ⟨a0, a1⟩ := okNd_coat hnd h6
    have : ((0 : Nat) : Int) = 0 := rfl
    omega
  rw [decide_eq_false h6, cond_false] at hF hE'
  rw [decide_eq_false h5, decide_eq_false h6, cond_false, cond_false] at p
  simp only [Bool.and_eq_true] at p
  obtain ⟨l0, l1, l2⟩ := p
  have em : ∀ k, lfE0 N v u cells off ((0 : Nat) : Int) k = (evN N v u k (evL N v u cs 0 k) n).2 := fun k => by
    unfold lfE0 evN
    rw [hnd0, decide_eq_false h5, decide_eq_false h6, cond_false, cond_false]
  have o0 : ObsOk (lfOb N v u (nd0 cells off ((0 : Nat) : Int)) 0) := by rw [hnd0]; exact Bu.obsB_ok l0
  have o1 : ObsOk (lfOb N v u (nd0 cells off ((0 : Nat) : Int)) 1) := by rw [hnd0]; exact Bu.obsB_ok l1
  have o2 : ObsOk (lfOb N v u (nd0 cells off ((0 : Nat) : Int)) 2) := by rw [hnd0]; exact Bu.obsB_ok l2
  have oT : ObsOk ([((nd0 cells off ((0 : Nat) : Int)).k == 6, false), ((nd0 cells off ((0 : Nat) : Int)).k == 5, false)] ++ evHd cells off len ((0 : Nat) : Int)) := by rw [hnd0]; exact ob_a (ob_c (beq_f h6) (ob_c (beq_f h5) ob_n)) hH
  rcases fst3_n hE' with ⟨a, q⟩ | ⟨z0, a, q⟩ | ⟨z0, z1, a, q⟩
  · exact fin (by rw [hF, q, em 0]) (erL_z0 N o e cells v u off len cap ((0 : Nat) : Int) x) (erO_z0 N o e cells v u off len cap ((0 : Nat) : Int) x) (ndE0_ok (by rw [em 0]; exact a) o0 oT) (erR_z0 N o e cells v u off len cap ((0 : Nat) : Int) x) (erM_z0 N o e cells v u off len cap ((0 : Nat) : Int) x)
  · exact fin (by rw [hF, q, em 1]) (erL_z1 N o e cells v u off len cap ((0 : Nat) : Int) x) (erO_z1 N o e cells v u off len cap ((0 : Nat) : Int) x) (ndE1_ok (by rw [em 0]; exact z0) (by rw [em 1]; exact a) o0 o1 oT) (erR_z1 N o e cells v u off len cap ((0 : Nat) : Int) x) (erM_z1 N o e cells v u off len cap ((0 : Nat) : Int) x)
  · exact fin (by rw [hF, q, em 2]) (erL_z2 N o e cells v u off len cap ((0 : Nat) : Int) x) (erO_z2 N o e cells v u off len cap ((0 : Nat) : Int) x) (ndE2_ok (by rw [em 0]; exact z0) (by rw [em 1]; exact z1) (by rw [em 2]; exact a) o0 o1 o2 oT) (erR_z2 N o e cells v u off len cap ((0 : Nat) : Int) x) (erM_z2 N o e cells v u off len cap ((0 : Nat) : Int) x)
end
theorem evE_up {N : Nde} {v u : V3} {cs : List SV} {i : Nat} (h : evE N v u cs i ≠ 0) : ∀ {j : Nat}, i ≤ j → evE N v u cs j = evE N v u cs i
  | 0, hj => by
    have : i = 0 := by omega
    subst this; rfl
  | j + 1, hj => by
    by_cases e : i = j + 1
    · subst e; rfl
    · have ih := evE_up h (j := j) (by omega)
      show (bif decide (evE N v u cs j = 0) then evF N v u cs j else evE N v u cs j) = evE N v u cs i
      rw [ih, decide_eq_false h, cond_false]
theorem evE_0 {N : Nde} {v u : V3} {cs : List SV} : ∀ {j : Nat}, evE N v u cs j = 0 → ∀ i, i < j → evF N v u cs i = 0 ∧ evE N v u cs i = 0
  | 0, _, i, hi => by omega
  | j + 1, h, i, hi => by
    have hj : evE N v u cs j = 0 := by
      by_cases e : evE N v u cs j = 0
      · exact e
      · unfold evE at h
        rw [decide_eq_false e, cond_false] at h
        exact absurd h e
    rcases Nat.lt_or_ge i j with h1 | h1
    · exact evE_0 hj i h1
    · have : i = j := by omega
      subst this
      refine ⟨?_, hj⟩
      unfold evE at h
      rw [decide_eq_true hj, cond_true] at h
      exact h
theorem evB_of {N : Nde} {v u : V3} {cs : List SV} {len : Nat} (hP : evPs N v u cs len = true) (h : evE N v u cs len = 0) : evB N v u cs len = true :=
  List.all_eq_true.2 fun i hi => evNB_of (evE_0 h i (List.mem_range.1 hi)).1 (evPs_at hP (List.mem_range.1 hi))
noncomputable def evSt (N : Nde) (e : TypeId) (cells cs : List SV) (v u : V3) (off len cap : Nat) (y : Nat → SV) : Nat → St
  | 0 => evS0 e cells v u off len cap ((0 : Nat) : Int) y none
  | j + 1 => evS e cells (lights (ltF N v u cs) (j + 1)) v u off len cap (j + 1) ((j + 1 : Nat) : Int) y none
section
variable {N : Nde} {o : List SV → Nat → Bool} (hO : OracleOk Tryz.prog (OE o N)) {e : TypeId} {cells cs : List SV} {v u : V3} {off len cap : Nat} {B : Bs} (hB1 : B.M.length = 1) (K : OkPg cs len) (hca : CellsAt cells off cs) (hP : evPs N v u cs len = true) (hE : evE N v u cs len ≠ 0)
include hO hB1 K hca hP hE
theorem er_loop (x : Nat → SV) : RunsB Tryz.prog B (.block 0 (.loop eBd)) (evSt N e cells cs v u off len cap x 0) .ret (RetE e cells (evE N v u cs len)) := by
  have hlo := K.lo
  refine loop_retB (fun p : Nat × (Nat → SV) => evSt N e cells cs v u off len cap p.2 p.1) (fun p => len - p.1) (fun p => p.1 < len ∧ evE N v u cs p.1 = 0) ?_ (0, x) ⟨by show 0 < len; omega, rfl⟩
  rintro ⟨j, y⟩ ⟨h1, h2⟩
  simp only at h1 h2 ⊢
  have hs : evE N v u cs (j + 1) = evF N v u cs j := by
    show (bif decide (evE N v u cs j = 0) then evF N v u cs j else evE N v u cs j) = _
    rw [decide_eq_true h2, cond_true]
  by_cases hF : evF N v u cs j = 0
  · right
    have hj : j + 1 < len := by
      rcases Nat.lt_or_ge (j + 1) len with h | h
      · exact h
      · have : j + 1 = len := by omega
        rw [this] at hs
        rw [hs] at hE
        exact absurd hF hE
    have b := evNB_of hF (evPs_at hP h1)
    have nx : ∀ t : St, (∃ x', t = evSt N e cells cs v u off len cap x' (j + 1)) → ∃ q : Nat × (Nat → SV), (q.1 < len ∧ evE N v u cs q.1 = 0) ∧ len - q.1 < len - j ∧ t = evSt N e cells cs v u off len cap q.2 q.1 := fun t ⟨x', ht⟩ => ⟨(j + 1, x'), ⟨hj, by rw [hs]; exact hF⟩, by show len - (j + 1) < len - j; omega, ht⟩
    cases j with
    | zero => exact RunsB.mono (ev_first hO hB1 K hca b) nx
    | succ j => exact RunsB.mono (ev_round hO hB1 K hca b h1) nx
  · left
    have hR : evE N v u cs len = evF N v u cs j := by
      have h3 : evE N v u cs (j + 1) ≠ 0 := by rw [hs]; exact hF
      rw [evE_up h3 (show j + 1 ≤ len by omega), hs]
    rw [hR]
    cases j with
    | zero => exact er_first hO K hca hP hF
    | succ j => exact er_round hO K hca hP h1 hF
set_option maxRecDepth 20000 in
theorem er_all (ho : o ((cells.drop off).take (len * 19)) len = true) (hd : ObsOk (vcO u ++ vcO v)) : RunsB Tryz.prog B eC (eEn e cells v u off len cap none) .ret (RetE e cells (evE N v u cs len)) := by
  have hE4 : ObsOk (evEO o cells v u off len) := by
    have hu : ObsOk (vcO u) := fun p hp => hd p (List.mem_append_left _ hp)
    have hv : ObsOk (vcO v) := fun p hp => hd p (List.mem_append_right _ hp)
    exact ob_a hu (ob_a hv (ob_c ho ob_n))
  refine RunsB.re (d := some (List.replicate 18 true)) (o := []) ((evL4 N o e cells v u off len cap).ok goodG hO (by rw [evO4]; exact hE4) ?_)
  rw [eC_cut]
  refine RunsB.seq_ret (LandsB.seq goodG hO (evL5 N o e cells v u off len cap) (by rw [evO5]; exact hE4) ?_)
  refine RunsB.keep (ids := [0, 1, 2, 3]) rfl (evM5 N o e cells v u off len cap) (fun n hn => by
    rw [hB1] at hn
    have : n = 0 := by omega
    subst this; rfl) fun vv => ?_
  have hs : SameSt (evS0 e cells v u off len cap ((0 : Nat) : Int) (ev5X N o e cells v u off len cap vv) none) ((ev5 N o e cells v u off len cap).sel [0, 1, 2, 3] (evP e cells v u) vv) := by
    refine same_T (fun m => ?_) rfl
    rw [evT5]
    simp only [evS0, evT, dens, den, Int.natCast_zero]
  exact RunsB.retell hs (er_loop hO hB1 K hca hP hE _)
end
def zCh : Ch := ⟨⟨toF 0, toF 0⟩, ⟨toF 0, toF 0⟩⟩
def eeC (N : Nde) (v u : V3) (cs : List SV) (len k : Nat) : Ch := bif decide (evE N v u cs len = 0) then ltF N v u cs k (len - 1) else zCh
structure Nev where
  o : List SV → Nat → Bool
  g : V3 → V3 → List SV → Nat → Nat → Ch
  e : V3 → V3 → List SV → Nat → Int
  b : V3 → V3 → List SV → Nat → Bool
def neV (N : Nde) : Nev := ⟨okPg, eeC N, evE N, evPs N⟩
def kEv_ (E : Nev) : RdF := fun cs len l ds => match l with
  | [.agg [.fl x0, .fl x1, .fl x2, .fl x3, .fl x4, .fl x5], .agg [.fl y0, .fl y1, .fl y2, .fl y3, .fl y4, .fl y5]] =>
    some (.tup [.agg (ltC (E.g ⟨⟨x0, x1⟩, ⟨x2, x3⟩, ⟨x4, x5⟩⟩ ⟨⟨y0, y1⟩, ⟨y2, y3⟩, ⟨y4, y5⟩⟩ cs len)), .si .i64 (E.e ⟨⟨x0, x1⟩, ⟨x2, x3⟩, ⟨x4, x5⟩⟩ ⟨⟨y0, y1⟩, ⟨y2, y3⟩, ⟨y4, y5⟩⟩ cs len)], ds,
      (decide (cs.length = len * 19), true) :: (E.o cs len, true) :: (E.b ⟨⟨x0, x1⟩, ⟨x2, x3⟩, ⟨x4, x5⟩⟩ ⟨⟨y0, y1⟩, ⟨y2, y3⟩, ⟨y4, y5⟩⟩ cs len, true) :: (vcO ⟨⟨y0, y1⟩, ⟨y2, y3⟩, ⟨y4, y5⟩⟩ ++ vcO ⟨⟨x0, x1⟩, ⟨x2, x3⟩, ⟨x4, x5⟩⟩))
  | _ => none
theorem ltE_plain (c : Nat → Ch) (e : Int) : plain (.tup [.agg (ltC c), .si .i64 e]) = some (.tuple #[ltV c, .int .i64 e]) := rfl
theorem evlRdE {N : Nde} (hO : OracleOk Tryz.prog (OE okPg N)) : RdOk Tryz.prog 27 (kEv_ (neV N)) := by
  intro cs len l ds x ds' ob h ho
  unfold kEv_ at h
  split at h
  · rename_i x0 x1 x2 x3 x4 x5 y0 y1 y2 y3 y4 y5
    simp only [Option.some.injEq, Prod.mk.injEq] at h
    obtain ⟨rfl, _, rfl⟩ := h
    have hl : cs.length = len * 19 := of_decide_eq_true (ho _ (List.mem_cons_self ..))
    have hok : okPg cs len = true := ho _ (List.mem_cons_of_mem _ (List.mem_cons_self ..))
    have K := okPg_ok hok
    have hP : evPs N ⟨⟨x0, x1⟩, ⟨x2, x3⟩, ⟨x4, x5⟩⟩ ⟨⟨y0, y1⟩, ⟨y2, y3⟩, ⟨y4, y5⟩⟩ cs len = true := ho _ (List.mem_cons_of_mem _ (List.mem_cons_of_mem _ (List.mem_cons_self ..)))
    have hd : ObsOk (vcO ⟨⟨y0, y1⟩, ⟨y2, y3⟩, ⟨y4, y5⟩⟩ ++ vcO ⟨⟨x0, x1⟩, ⟨x2, x3⟩, ⟨x4, x5⟩⟩) := fun p hp => ho p (List.mem_cons_of_mem _ (List.mem_cons_of_mem _ (List.mem_cons_of_mem _ hp)))
    obtain ⟨vc, hc⟩ := K.pl
    have hok' : ∀ {cells : List SV} {off : Nat}, CellsAt cells off cs → okPg ((cells.drop off).take (len * 19)) len = true := fun hca => by rw [← hl, at_take hca]; exact hok
    refine ⟨vc, _, _, hc, rfl, ltE_plain _ _, fun w r off cap hw => ?_⟩
    by_cases hE : evE N ⟨⟨x0, x1⟩, ⟨x2, x3⟩, ⟨x4, x5⟩⟩ ⟨⟨y0, y1⟩, ⟨y2, y3⟩, ⟨y4, y5⟩⟩ cs len = 0
    · have e1 : (neV N).e ⟨⟨x0, x1⟩, ⟨x2, x3⟩, ⟨x4, x5⟩⟩ ⟨⟨y0, y1⟩, ⟨y2, y3⟩, ⟨y4, y5⟩⟩ cs len = 0 := hE
      have e2 : (neV N).g ⟨⟨x0, x1⟩, ⟨x2, x3⟩, ⟨x4, x5⟩⟩ ⟨⟨y0, y1⟩, ⟨y2, y3⟩, ⟨y4, y5⟩⟩ cs len = fun k => ltF N ⟨⟨x0, x1⟩, ⟨x2, x3⟩, ⟨x4, x5⟩⟩ ⟨⟨y0, y1⟩, ⟨y2, y3⟩, ⟨y4, y5⟩⟩ cs k (len - 1) := by
        funext k
        show eeC N _ _ cs len k = _
        unfold eeC
        rw [decide_eq_true hE, cond_true]
      rw [e1, e2]
      refine rd_of_runsB (d := none) Tryz.func27 eBody hc (l := [.agg [.fl x0, .fl x1, .fl x2, .fl x3, .fl x4, .fl x5], .agg [.fl y0, .fl y1, .fl y2, .fl y3, .fl y4, .fl y5]]) rfl (lt_plain _) (fun e cells off cap hca hid B hBM => ?_) w r off cap hw
      exact ev_all (v := ⟨⟨x0, x1⟩, ⟨x2, x3⟩, ⟨x4, x5⟩⟩) (u := ⟨⟨y0, y1⟩, ⟨y2, y3⟩, ⟨y4, y5⟩⟩) hO (by rw [hBM]; rfl) K hca (evB_of hP hE) (hok' hca) hd hBM
    · have e2 : (neV N).g ⟨⟨x0, x1⟩, ⟨x2, x3⟩, ⟨x4, x5⟩⟩ ⟨⟨y0, y1⟩, ⟨y2, y3⟩, ⟨y4, y5⟩⟩ cs len = fun _ => zCh := by
        funext k
        show eeC N _ _ cs len k = _
        unfold eeC
        rw [decide_eq_false hE, cond_false]
      rw [e2]
      refine rd_of_runsB (d := none) Tryz.func27 eBody hc (l := [.agg [.fl x0, .fl x1, .fl x2, .fl x3, .fl x4, .fl x5], .agg [.fl y0, .fl y1, .fl y2, .fl y3, .fl y4, .fl y5]]) rfl (x := .tup [zLt, .si .i64 (evE N ⟨⟨x0, x1⟩, ⟨x2, x3⟩, ⟨x4, x5⟩⟩ ⟨⟨y0, y1⟩, ⟨y2, y3⟩, ⟨y4, y5⟩⟩ cs len)]) rfl (fun e cells off cap hca hid B hBM => ?_) w r off cap hw
      exact er_all (v := ⟨⟨x0, x1⟩, ⟨x2, x3⟩, ⟨x4, x5⟩⟩) (u := ⟨⟨y0, y1⟩, ⟨y2, y3⟩, ⟨y4, y5⟩⟩) hO (by rw [hBM]; rfl) K hca hP hE (hok' hca) hd
  · cases h
noncomputable def EvR : Nev := neV NeR
theorem evK_ : RdOk Tryz.prog 27 (kEv_ EvR) := evlRdE oracleOE
end Go.Proofs.YthclipfgcgoofaaGreat
namespace Bu
set_option linter.all false
open Rx Go
structure OvP (i o : I) (w : F) (a : Ch) (s h x y f q t z r : I) : Prop where
  e1 : KkR.sub 0 (pt one64) o = (s, 0)
  e2 : KkR.sub 0 (pt one64) i = (h, 0)
  e3 : KkR.mul 0 h s = (x, 0)
  e4 : KkR.mul 0 x (pt w) = (y, 0)
  e5 : KkR.mul 0 y a.p = (f, 0)
  e6 : KkR.sqr 0 s = (q, 0)
  e7 : KkR.mul 0 q (pt w) = (t, 0)
  e8 : KkR.mul 0 t a.m = (z, 0)
  e9 : KkR.add 0 o z = (r, 0)
theorem OvP.eq {i o : I} {w : F} {a : Ch} {s h x y f q t z r : I} (k : OvP i o w a s h x y f q t z r) : overC KkR i o w a = (⟨f, r⟩, 0) := by
  unfold overC
  have n1 : KkR.num 0 one_ = (pt one64, 0) := rfl
  have n2 : KkR.num 0 w = (pt w, 0) := rfl
  simp only [n1, n2, k.e1, k.e2, k.e3, k.e4, k.e5, k.e6, k.e7, k.e8, k.e9]
end Bu
namespace Go.Proofs.YthclipfgcgoofaaGreat
set_option linter.all false
open Go.RowKit Bu Rx
set_option maxRecDepth 100000 in
theorem bz1_B : byE bz1 bz1 = true ∧ (decide ((KTR.sqr 0 bz1).2 = 0) && inbB (KTR.sqr 0 bz1).1 bz1) = true := by decide +kernel
theorem sqr_in {x : I} (hx : InB x bz1) : ∃ r, KkR.sqr 0 x = (r, 0) ∧ InB r bz1 := by
  have k := bz1_B.2
  rw [Bool.and_eq_true, decide_eq_true_eq] at k
  obtain ⟨r, e, n⟩ := sqr_inn hx.inn k.1
  exact ⟨r, e, inB_tr n.inB k.2⟩
end Go.Proofs.YthclipfgcgoofaaGreat
namespace Bu
set_option linter.all false
open Rx Go
def wdI (a : I) (y l : F) : I := ⟨mxF (sf (fsu a.lo y)) l, mnF (sf (fad a.hi y)) one64⟩
def f4_ : F := toF 4616189618054758400
def wdP (a : I) (y : F) : Bool := decide (f4_.neg.k ≤ a.lo.k) && decide (a.lo.k ≤ f4_.k) && decide (f4_.neg.k ≤ a.hi.k) && decide (a.hi.k ≤ f4_.k) && decide (f4_.neg.k ≤ y.k) && decide (y.k ≤ f4_.k)
def kWd (f : I → F → F → I) (p : I → F → Bool) : List SV → Dec → Option (SV × Dec × Obs)
  | [.agg [.fl a, .fl b], .fl y, .fl l], ds => some (.agg [.fl (f ⟨a, b⟩ y l).lo, .fl (f ⟨a, b⟩ y l).hi], ds, [(p ⟨a, b⟩ y, true)])
  | _, _ => none
def spF (f : F → F → Int → F) (a b : F) (u v : Int) : I := bif decide ((f a b v).k < (f a b u).k) then ⟨f a b v, f a b u⟩ else ⟨f a b u, f a b v⟩
def kSp (f : F → F → Int → Int → I) (p : F → F → Bool) (w : Int → Bool) : List SV → Dec → Option (SV × Dec × Obs)
  | [.fl a, .fl b, x, y], ds => match intS x, intS y with
    | some (.u32, n), some (.u32, m) => some (.agg [.fl (f a b n m).lo, .fl (f a b n m).hi], ds, [(p a b, true), (w n, true), (w m, true)])
    | _, _ => none
  | _, _ => none
theorem wd_ok {a : I} {y : F} (h : wdP a y = true) : obsB (so (fsu a.lo y)) = true ∧ obsB (so (fad a.hi y)) = true := by
  unfold wdP at h
  simp only [Bool.and_eq_true, decide_eq_true_iff] at h
  obtain ⟨⟨⟨⟨⟨p1, p2⟩, p3⟩, p4⟩, p5⟩, p6⟩ := h
  have c : f4_.q = 4 := q_int (n := 4) (by decide +kernel)
  have q1 := q_le.2 p1; have q2 := q_le.2 p2; have q3 := q_le.2 p3; have q4 := q_le.2 p4; have q5 := q_le.2 p5; have q6 := q_le.2 p6
  rw [q_neg, c] at q1 q3 q5
  rw [c] at q2 q4 q6
  obtain ⟨g, hg⟩ := big_ex
  obtain ⟨D, e, _⟩ := sub_nr (x := a.lo) (y := y) (g := g) (by grind) (by grind)
  obtain ⟨D', e', _⟩ := add_nr (x := a.hi) (y := y) (g := g) (by grind) (by grind)
  exact ⟨(so_ok (show fsu a.lo y = some D.b from e)).1, (so_ok (show fad a.hi y = some D'.b from e')).1⟩
end Bu
namespace Go.Proofs.YthclipfgcgoofaaGreat
set_option linter.all false
open Go.RowKit Bu Rx
def wdX (a : I) (y l : F) (d1 d2 : Bool) : I := ⟨bif d1 then l else sf (fsu a.lo y), bif d2 then one64 else sf (fad a.hi y)⟩
theorem wdRun (a b y l : F) (d1 d2 : Bool) : valR ((run Tryz.prog EG OIM 80).1 71 [.agg [.fl a, .fl b], .fl y, .fl l] [] (some [d1, d2])) = some (.agg [.fl (sf (fad (wdX ⟨a, b⟩ y l d1 d2).lo (toF 0))), .fl (sf (fad (wdX ⟨a, b⟩ y l d1 d2).hi (toF 0)))], some [], so (fad (wdX ⟨a, b⟩ y l d1 d2).hi (toF 0)) ++ so (fad (wdX ⟨a, b⟩ y l d1 d2).lo (toF 0)) ++ (decide (one64.k < (sf (fad b y)).k), d2) :: (decide ((sf (fsu a y)).k < l.k), d1) :: (so (fad b y) ++ so (fsu a y))) := by cases d1 <;> cases d2 <;> kernel_rfl
theorem wdG : PlainOk Tryz.prog 71 (kWd wdI wdP) := by
  intro args ds x ds' ob h ho
  unfold kWd at h
  split at h
  · rename_i a b y l
    simp only [Option.some.injEq, Prod.mk.injEq] at h; obtain ⟨rfl, _, rfl⟩ := h
    have hp : wdP ⟨a, b⟩ y = true := ho _ (List.mem_cons_self ..)
    obtain ⟨o1, o2⟩ := wd_ok hp
    refine ⟨[.agg #[.float .f64 a.b, .float .f64 b.b], .float .f64 y.b, .float .f64 l.b], _, rfl, rfl, fun w => ?_⟩
    have r := wdRun a b y l (decide ((sf (fsu a y)).k < l.k)) (decide (one64.k < (sf (fad b y)).k))
    have e : wdX ⟨a, b⟩ y l (decide ((sf (fsu a y)).k < l.k)) (decide (one64.k < (sf (fad b y)).k)) = wdI ⟨a, b⟩ y l := by
      unfold wdX wdI
      refine congr (congrArg I.mk (F.ext' ?_)) (F.ext' ?_)
      · show _ = (mxF (sf (fsu a y)) l).k
        rw [mxF_k]
        cases g : decide ((sf (fsu a y)).k < l.k)
        · have := of_decide_eq_false g; show (sf (fsu a y)).k = _; omega
        · have := of_decide_eq_true g; show l.k = _; omega
      · show _ = (mnF (sf (fad b y)) one64).k
        rw [mnF_k]
        cases g : decide (one64.k < (sf (fad b y)).k)
        · have := of_decide_eq_false g; show (sf (fad b y)).k = _; omega
        · have := of_decide_eq_true g; show one64.k = _; omega
    rw [e] at r
    obtain ⟨z1, z2⟩ := so_ok (fad_zero (wdI ⟨a, b⟩ y l).lo)
    obtain ⟨z3, z4⟩ := so_ok (fad_zero (wdI ⟨a, b⟩ y l).hi)
    rw [z2, z4] at r
    exact calls_of_val goodG oracleIM 80 r (ObsOk.of_B (ob2 (ob2 z3 z1) (obsB_yes rfl (obsB_yes rfl (ob2 o2 o1))))) rfl rfl w
  · cases h
def OSp (f : F → F → Int → F) (p : F → F → Bool) (w : Int → Bool) : OracleF := lookO [(49, plainO (kBw f p w))]
theorem spRun (f : F → F → Int → F) (p : F → F → Bool) (w : Int → Bool) (a b : F) (n m : Int) (d : Bool) : valR ((run Tryz.prog EG (OSp f p w) 80).1 72 [.fl a, .fl b, .si .u32 n, .si .u32 m] [] (some [d])) = some (.agg [.fl (bif d then f a b m else f a b n), .fl (bif d then f a b n else f a b m)], some [], [(decide ((f a b m).k < (f a b n).k), d), (p a b, true), (w m, true), (p a b, true), (w n, true)]) := by cases d <;> kernel_rfl
end Go.Proofs.YthclipfgcgoofaaGreat
namespace Bu
set_option linter.all false
open Rx Go Ieee
theorem mul_zero0 {x y : F} (hx : 0 ≤ x.k) (hy : 0 ≤ y.k) (h : x.k = 0 ∨ y.k = 0) : double.mul x.b y.b = some F.zero.b := by
  unfold Format.mul
  rw [read_F, read_F]
  simp only [Datum.product, Option.map_some, Format.write]
  have m : man x.k.natAbs * man y.k.natAbs = 0 := by
    rcases h with h | h
    · rw [show x.k.natAbs = 0 by omega, show man 0 = 0 from rfl, Nat.zero_mul]
    · rw [show y.k.natAbs = 0 by omega, show man 0 = 0 from rfl, Nat.mul_zero]
  rw [m, decide_eq_false (show ¬ x.k < 0 by omega), decide_eq_false (show ¬ y.k < 0 by omega)]
  show some (double.nearest false 0 _) = _
  unfold Format.nearest
  rw [if_pos rfl]
  rfl
def parB (a b : F) : Bool := decide (mone64.k ≤ a.k) && (decide (a.k ≤ b.k) && decide (b.k ≤ one64.k))
theorem par_ok {a b : F} {n : Int} (hp : parB a b = true) (h : wN32 n = true) : obsB (bwO a b n) = true := by
  unfold parB at hp
  simp only [Bool.and_eq_true, decide_eq_true_iff] at hp
  obtain ⟨p1, p2, p3⟩ := hp
  obtain ⟨t, e1, t0, t1, hr⟩ := frT_ok h
  obtain ⟨o1, o2⟩ := so_ok e1
  have eT : frT n = t := o2
  have q1 := q_le.2 p1; have q2 := q_le.2 p2; have q3 := q_le.2 p3
  rw [mone_q] at q1; rw [one_q] at q3
  obtain ⟨g, hg⟩ := big_ex
  obtain ⟨D, e2, d⟩ := sub_nr (x := b) (y := a) (g := g) (by grind) (by grind)
  obtain ⟨o3, o4⟩ := so_ok (show fsu b a = some D.b from e2)
  have D0 : 0 ≤ D.q := by have := d.dn F.zero (by rw [q_zero]; grind); rwa [q_zero] at this
  obtain ⟨f2, g2⟩ : ∃ f : F, f.q = 2 := ⟨two64, q_int (n := 2) (by decide +kernel)⟩
  have D2 : D.q ≤ 2 := by have := d.up f2 (by rw [g2]; grind); rwa [g2] at this
  have Dk : 0 ≤ D.k := by have := q_le.1 (show F.zero.q ≤ D.q by rw [q_zero]; exact D0); exact this
  have hm : ∃ p : F, fmu D t = some p.b ∧ 0 ≤ p.q ∧ p.q ≤ 2 := by
    by_cases c : D.k = 0 ∨ t.k = 0
    · exact ⟨F.zero, mul_zero0 Dk t0 c, by rw [q_zero]; exact Rat.le_refl, by rw [q_zero]; grind⟩
    · obtain ⟨p, e, a0, a1⟩ := mul_le1 (x := D) (y := t) (by omega) (by omega) t1
      have b0 := q_le.2 a1
      have b1 := q_le.2 (show F.zero.k ≤ p.k from a0)
      rw [q_zero] at b1
      exact ⟨p, e, b1, by grind⟩
  obtain ⟨p, e3, r0, r1⟩ := hm
  obtain ⟨o5, o6⟩ := so_ok e3
  have eD : sf (fsu b a) = D := o4
  have eP : bwP a b n = p := by unfold bwP; rw [eT, eD]; exact o6
  obtain ⟨E, e4, _⟩ := add_nr (x := a) (y := p) (g := g) (by grind) (by grind)
  obtain ⟨o7, _⟩ := so_ok (show fad a p = some E.b from e4)
  unfold bwO
  rw [eP, eT, eD]
  exact ob2 (ob2 (ob2 (ob2 o7 o5) o1) (obsB_yes hr obsB_nil)) o3
theorem spF_in {a b : F} {u v : Int} (h : a.k ≤ b.k) : InB (spF bwF a b u v) ⟨a, b⟩ := by
  have x := bwF_in (n := u) h
  have y := bwF_in (n := v) h
  unfold spF
  cases c : decide ((bwF a b v).k < (bwF a b u).k)
  · have := of_decide_eq_false c
    exact ⟨x.1, y.2, by show (bwF a b u).k ≤ (bwF a b v).k; omega⟩
  · have := of_decide_eq_true c
    exact ⟨y.1, x.2, by show (bwF a b v).k ≤ (bwF a b u).k; omega⟩
theorem wd_in {a : I} {y l : F} (h : In1 a) (hl : l.k ≤ a.hi.k) (hm : mone64.k ≤ l.k) (h1 : l.k ≤ one64.k) (y0 : 0 ≤ y.q) (y1 : y.q ≤ 1) : l.k ≤ (wdI a y l).lo.k ∧ (wdI a y l).lo.k ≤ (wdI a y l).hi.k ∧ (wdI a y l).hi.k ≤ one64.k := by
  obtain ⟨g, hg⟩ := big_ex
  have a1 := q_le.2 h.lo; have a2 := q_le.2 h.hi; have a3 := q_le.2 h.rt
  rw [mone_q] at a1; rw [one_q] at a2
  obtain ⟨D, e1, d1⟩ := sub_nr (x := a.lo) (y := y) (g := g) (by grind) (by grind)
  obtain ⟨E, e2, d2⟩ := add_nr (x := a.hi) (y := y) (g := g) (by grind) (by grind)
  have x1 : sf (fsu a.lo y) = D := (so_ok (show fsu a.lo y = some D.b from e1)).2
  have x2 : sf (fad a.hi y) = E := (so_ok (show fad a.hi y = some E.b from e2)).2
  have k1 : D.k ≤ a.lo.k := q_le.1 (d1.up a.lo (by grind))
  have k2 : a.hi.k ≤ E.k := q_le.1 (d2.dn a.hi (by grind))
  have r := h.rt; have u := h.hi
  unfold wdI
  rw [x1, x2]
  refine ⟨?_, ?_, ?_⟩
  · show l.k ≤ (mxF D l).k; rw [mxF_k]; omega
  · show (mxF D l).k ≤ (mnF E one64).k; rw [mxF_k, mnF_k]; omega
  · show (mnF E one64).k ≤ one64.k; rw [mnF_k]; omega
end Bu
namespace Go.Proofs.YthclipfgcgoofaaGreat
set_option linter.all false
open Go.RowKit Bu Rx
theorem bpG : PlainOk Tryz.prog 49 (kBw bwF parB wN32) := by
  intro args ds x ds' ob h ho
  unfold kBw at h
  split at h
  · rename_i a b u
    split at h
    · rename_i n hk
      simp only [Option.some.injEq, Prod.mk.injEq] at h; obtain ⟨rfl, _, rfl⟩ := h
      have hp : parB a b = true := ho _ (List.mem_cons_self ..)
      have hn : wN32 n = true := ho (_, true) (List.mem_cons_of_mem _ (List.mem_cons_self ..))
      have hO := par_ok hp hn
      refine ⟨[.float .f64 a.b, .float .f64 b.b, .int .u32 n], .float .f64 (bwF a b n).b, plains_cons rfl (plains_cons rfl (plains_cons (intS_plain hk) plains_nil)), rfl, fun w => ?_⟩
      unfold bwF
      cases h1 : decide ((bwX a b n).k < a.k)
      · cases h2 : decide (b.k < (bwX a b n).k)
        · exact calls_of_val goodG oracleIM 80 (bwRun a b n) (ObsOk.of_B (obsB_yes h2 (obsB_yes h1 hO))) rfl rfl w
        · exact calls_of_val goodG oracleIM 80 (bwRun2 a b n) (ObsOk.of_B (obsB_yes h2 (obsB_yes h1 hO))) rfl rfl w
      · exact calls_of_val goodG oracleIM 80 (bwRun1 a b n) (ObsOk.of_B (obsB_yes h1 hO)) rfl rfl w
    · cases h
  · cases h
theorem oracleSi : OracleOk Tryz.prog (OSp bwF parB wN32) := .cons bpG.of (.nil _)
theorem siG : PlainOk Tryz.prog 72 (kSp (spF bwF) parB wN32) := by
  intro args ds x ds' ob h ho
  unfold kSp at h
  split at h
  · rename_i a b x y
    split at h
    · rename_i n m e1 e2
      simp only [Option.some.injEq, Prod.mk.injEq] at h; obtain ⟨rfl, _, rfl⟩ := h
      have hp : parB a b = true := ho _ (List.mem_cons_self ..)
      have h1 : wN32 n = true := ho (_, true) (List.mem_cons_of_mem _ (List.mem_cons_self ..))
      have h2 : wN32 m = true := ho (_, true) (List.mem_cons_of_mem _ (List.mem_cons_of_mem _ (List.mem_cons_self ..)))
      refine ⟨[.float .f64 a.b, .float .f64 b.b, .int .u32 n, .int .u32 m], _, plains_cons rfl (plains_cons rfl (plains_cons (intS_plain e1) (plains_cons (intS_plain e2) plains_nil))), rfl, fun w => ?_⟩
      have r := spRun bwF parB wN32 a b n m (decide ((bwF a b m).k < (bwF a b n).k))
      unfold spF
      cases d : decide ((bwF a b m).k < (bwF a b n).k) <;> rw [d] at r <;> exact calls_of_val goodG oracleSi 80 r (ObsOk.of_B (obsB_yes rfl (obsB_yes hp (obsB_yes h2 (obsB_yes hp (obsB_yes h1 obsB_nil)))))) rfl rfl w
    · cases h
  · cases h
def inB2 (a b : I) : Bool := decide (b.lo.k ≤ a.lo.k) && decide (a.hi.k ≤ b.hi.k)
theorem inRun0 (a b c d : F) : valR ((run Tryz.prog EG OIM 80).1 28 [.agg [.fl a, .fl b], .agg [.fl c, .fl d]] [] (some [false])) = some (.b false, some [], [(decide (c.k ≤ a.k), false)]) := by kernel_rfl
theorem inRun1 (a b c d : F) (h : Bool) : valR ((run Tryz.prog EG OIM 80).1 28 [.agg [.fl a, .fl b], .agg [.fl c, .fl d]] [] (some [true, h])) = some (.b h, some [], [(decide (b.k ≤ d.k), h), (decide (c.k ≤ a.k), true)]) := by cases h <;> kernel_rfl
theorem inG : PlainOk Tryz.prog 28 (kBII inB2) := by
  intro args ds x ds' ob h ho
  unfold kBII at h
  split at h
  · rename_i a b c d
    simp only [Option.map_eq_some_iff, Prod.mk.injEq] at h
    obtain ⟨⟨r, e, o⟩, h1, rfl, rfl, rfl⟩ := h
    have hd : r = inB2 ⟨a, b⟩ ⟨c, d⟩ := takeB_ok h1 ho
    subst hd
    refine ⟨[.agg #[.float .f64 a.b, .float .f64 b.b], .agg #[.float .f64 c.b, .float .f64 d.b]], .bool (inB2 ⟨a, b⟩ ⟨c, d⟩), rfl, rfl, fun w => ?_⟩
    unfold inB2
    cases h1 : decide (c.k ≤ a.k)
    · exact calls_of_val goodG oracleIM 80 (inRun0 a b c d) (ObsOk.of_B (obsB_yes h1 obsB_nil)) rfl rfl w
    · cases h2 : decide (b.k ≤ d.k)
      · exact calls_of_val goodG oracleIM 80 (inRun1 a b c d false) (ObsOk.of_B (obsB_yes h2 (obsB_yes h1 obsB_nil))) rfl rfl w
      · exact calls_of_val goodG oracleIM 80 (inRun1 a b c d true) (ObsOk.of_B (obsB_yes h2 (obsB_yes h1 obsB_nil))) rfl rfl w
  · cases h
end Go.Proofs.YthclipfgcgoofaaGreat
namespace Bu
set_option linter.all false
open Rx Go
def wxD (y : Int) : Option Nat := fdv (toF (FloatKind.f64.nearest y)) (toF 4643211215818981376)
def wxF (y : Int) : F := sf (wxD y)
structure Nm where
  N : Nl
  wi : I → F → F → I
  wp : I → F → Bool
  sp : F → F → Int → Int → I
  pp : F → F → Bool
  wu : Int → Bool
  ii : I → I → Bool
def wdV (M : Nm) (v : V3) (y : F) : V3 := ⟨M.wi v.x y mone64, M.wi v.y y mone64, M.wi v.z y z64⟩
def wdO (M : Nm) (v : V3) (y : F) (o : Obs) : Obs := (M.wp v.z y, true) :: (M.wp v.y y, true) :: (M.wp v.x y, true) :: o
def inV (M : Nm) (v : V3) (u : U6) : V3 := ⟨M.sp v.x.lo v.x.hi u.a0 u.a1, M.sp v.y.lo v.y.hi u.a2 u.a3, M.sp v.z.lo v.z.hi u.a4 u.a5⟩
def inO (M : Nm) (v : V3) (u : U6) (o : Obs) : Obs := (M.pp v.z.lo v.z.hi, true) :: (M.wu u.a4, true) :: (M.wu u.a5, true) :: (M.pp v.y.lo v.y.hi, true) :: (M.wu u.a2, true) :: (M.wu u.a3, true) :: (M.pp v.x.lo v.x.hi, true) :: (M.wu u.a0, true) :: (M.wu u.a1, true) :: o
end Bu
namespace Go.Proofs.YthclipfgcgoofaaGreat
set_option linter.all false
open Go.RowKit Bu Rx
theorem lnR_inv {E : List I × Int} {i : Nat} (h : (lnR E i).2 = 0) : E.2 = 0 := by
  unfold lnR at h
  cases c : neB E.2
  · exact neB_0 c
  · rw [c] at h; exact h
theorem ggR_inv {p : List Bu.Op} {c al : I} (h : (ggR KkR p c al).2 = 0) : (evalK KkR p [c, al] 0).2 = 0 := by
  unfold ggR ggE at h
  cases e : neB (evalK KkR p [c, al] 0).2
  · exact neB_0 e
  · rw [e] at h; exact h
theorem bif_0 {e x : Int} (h : (bif neB e then e else x) = 0) : e = 0 ∧ x = 0 := by
  cases c : neB e
  · rw [c] at h; exact ⟨neB_0 c, h⟩
  · rw [c, cond_true] at h; rw [h] at c; cases c
set_option maxRecDepth 100000 in
theorem gl_inv {v u : V3} {al : I} (h : (glR KkR GlR v u al).2 = 0) : (miE v u).2 = 0 ∧ (evalK KkR ggD [lnI v u, al] 0).2 = 0 ∧ (evalK KkR gg2 [u.z, v.z, al] 0).2 = 0 ∧ (evalK KkR gg1 [u.z, al] 0).2 = 0 ∧ (giE v u al).2 = 0 := by
  have e0 : glErr KkR GlR v u al = 0 := by
    unfold glR at h
    cases c : neB (glErr KkR GlR v u al)
    · exact neB_0 c
    · rw [c, cond_true] at h; exact h
  unfold glErr at e0
  obtain ⟨a1, e1⟩ := bif_0 e0
  obtain ⟨a2, e2⟩ := bif_0 e1
  obtain ⟨a3, e3⟩ := bif_0 e2
  obtain ⟨a4, a5⟩ := bif_0 e3
  have eH : GlR.H v u = miE v u := rfl
  rw [eH] at a1
  have h1 : glH GlR v u = (lnI v u, hfI v u) := by unfold glH; rw [eH, lnR_0 a1, lnR_0 a1]; rfl
  rw [h1] at a2
  have b2 : (evalK KkR ggD [lnI v u, al] 0).2 = 0 := ggR_inv a2
  have b3 : (evalK KkR gg2 [u.z, v.z, al] 0).2 = 0 := by
    have q : GlR.b = fun c d al => lnR (g2K KkR c d al) 0 := rfl
    rw [q] at a3
    exact lnR_inv a3
  have b4 : (evalK KkR gg1 [u.z, al] 0).2 = 0 := ggR_inv a4
  have h2 : GlR.d (lnI v u) al = (Da v u al, 0) := ggR_0 b2
  have h3 : GlR.b v.z u.z al = (Ga v u al, 0) := by
    have q : GlR.b = fun c d al => lnR (g2K KkR c d al) 0 := rfl
    rw [q]
    have e3 : (g2K KkR v.z u.z al).2 = 0 := b3
    show lnR (g2K KkR v.z u.z al) 0 = _
    rw [lnR_0 e3]
    rfl
  have h4 : GlR.o u.z al = (Gb u al, 0) := ggR_0 b4
  have h5 : glE KkR GlR v u al = giE v u al := by unfold glE; rw [h1, h2, h3, h4]; rfl
  rw [h5] at a5
  exact ⟨a1, b2, b3, b4, a5⟩
structure InV3 (a b : V3) : Prop where
  x : InB a.x b.x
  y : InB a.y b.y
  z : InB a.z b.z
theorem inb_refl {a : I} (h : rt a = true) : InB a a := ⟨Int.le_refl _, Int.le_refl _, of_decide_eq_true h⟩
structure GlI (v u v' u' : V3) (al : I) : Prop where
  e : glR KkR GlR v u al = (⟨lnI v u, hfI v u, giV v u al, giD v u al⟩, 0)
  e' : glR KkR GlR v' u' al = (⟨lnI v' u', hfI v' u', giV v' u' al, giD v' u' al⟩, 0)
  gh : InB (hfI v u) (hfI v' u')
  gv : InB (giV v u al) (giV v' u' al)
  gd : InB (giD v u al) (giD v' u' al)
theorem gl_inn {v u v' u' : V3} {al : I} (hv : InV3 v v') (hu : InV3 u u') (ha : rt al = true) (h : (glR KkR GlR v' u' al).2 = 0) : GlI v u v' u' al := by
  obtain ⟨a1, a2, a3, a4, a5⟩ := gl_inv h
  obtain ⟨m1, m2, m3, m4, m5, m6, m7⟩ := q_mono
  have ia := inb_refl ha
  have b1 := box (v := [u.z, u.y, u.x, v.z, v.y, v.x]) (w := [u'.z, u'.y, u'.x, v'.z, v'.y, v'.x]) m1 ⟨hu.z, hu.y, hu.x, hv.z, hv.y, hv.x, trivial⟩ a1
  have b2 := box (v := [lnI v u, al]) (w := [lnI v' u', al]) m4 ⟨(b1.2 0).inB, ia, trivial⟩ a2
  have b3 := box (v := [u.z, v.z, al]) (w := [u'.z, v'.z, al]) m2 ⟨hu.z, hv.z, ia, trivial⟩ a3
  have b4 := box (v := [u.z, al]) (w := [u'.z, al]) m3 ⟨hu.z, ia, trivial⟩ a4
  have b5 := box (v := [Gb u al, Ga v u al, Da v u al, u.z, v.z]) (w := [Gb u' al, Ga v' u' al, Da v' u' al, u'.z, v'.z]) m5 ⟨(b4.2 0).inB, (b3.2 0).inB, (b2.2 0).inB, hu.z, hv.z, trivial⟩ a5
  have q1 : InB (hfI v u) (hfI v' u') := (b1.2 3).inB
  have q2 : InB (giV v u al) (giV v' u' al) := (b5.2 3).inB
  have q3 : InB (giD v u al) (giD v' u' al) := (b5.2 0).inB
  exact ⟨gl_of b1.1 b2.1 b3.1 b4.1 b5.1, gl_of a1 a2 a3 a4 a5, q1, q2, q3⟩
theorem glM_inv {g : Gl4 × Int} {r : I × Int} (h : (glM KkR g r).2 = 0) : g.2 = 0 ∧ r.2 = 0 ∧ (KkR.mul 0 g.1.v r.1).2 = 0 ∧ glM KkR g r = ((KkR.mul 0 g.1.v r.1).1, 0) := by
  unfold glM at *
  cases c1 : neB g.2
  · cases c2 : neB r.2
    · cases c3 : neB (KkR.mul 0 g.1.v r.1).2
      · exact ⟨neB_0 c1, neB_0 c2, neB_0 c3, rfl⟩
      · rw [c1, c2, c3] at h
        have h' : (KkR.mul 0 g.1.v r.1).2 = 0 := h
        rw [h'] at c3; cases c3
    · rw [c1, c2] at h
      have h' : r.2 = 0 := h
      rw [h'] at c2; cases c2
  · rw [c1] at h
    have h' : g.2 = 0 := h
    rw [h'] at c1; cases c1
theorem glM_in {g : Gl4} {f : I} (h : (KkR.mul 0 g.v f).2 = 0) : glM KkR (g, 0) (f, 0) = ((KkR.mul 0 g.v f).1, 0) := by
  unfold glM
  simp only []
  rw [h]
  rfl
theorem inr_of {b a : I} (h : InB b a) : inB2 b a = true := by
  unfold inB2; rw [Bool.and_eq_true]; exact ⟨decide_eq_true h.1, decide_eq_true h.2.1⟩
theorem ln_inn {E E' : List I × Int} (h : E'.2 = 0 → E.2 = 0 ∧ InB (gt E.1 0) (gt E'.1 0)) : (lnR E' 0).2 = 0 → (lnR E 0).2 = 0 ∧ InB (lnR E 0).1 (lnR E' 0).1 := by
  intro k
  have k' := lnR_inv k
  obtain ⟨a, b⟩ := h k'
  rw [lnR_0 a, lnR_0 k']
  exact ⟨rfl, b⟩
theorem gl_inn3 {v u v' u' : V3} {al : I} (hv : InV3 v v') (hu : InV3 u u') (ha : rt al = true) (h : (glR KkR GlR v' u' al).2 = 0) : (glR KkR GlR v u al).2 = 0 ∧ InB (glR KkR GlR v u al).1.v (glR KkR GlR v' u' al).1.v ∧ InB (glR KkR GlR v u al).1.hf (glR KkR GlR v' u' al).1.hf := by
  have q := gl_inn hv hu ha h
  rw [q.e, q.e']
  exact ⟨rfl, q.gv, q.gh⟩
theorem fdK_eq (h r : I) : fdK KkR h r = evalK KkR frD [h, r] 0 := rfl
theorem fcK_eq (h r s : I) : fcK KkR h r s = evalK KkR frC [h, r, s] 0 := rfl
theorem dtK_eq (v u : V3) : dtK KkR v u = evalK KkR dtP [u.z, u.y, u.x, v.z, v.y, v.x] 0 := rfl
theorem orV_eq (r s sl : I) : orV r s sl = gt (evalK KkR orT [sl, s, r] 0).1 0 := rfl
theorem lbK_eq2 (a : I) : lbK KkR a = evalK KkR lbV [a] 0 := rfl
theorem fd_mono {r : I} (hr : rt r = true) (x y : I) (h : InB x y) : (fdK KkR y r).2 = 0 → (fdK KkR x r).2 = 0 ∧ InB (gt (fdK KkR x r).1 0) (gt (fdK KkR y r).1 0) := by
  rw [fdK_eq, fdK_eq]
  intro e
  have t := box (v := [x, r]) (w := [y, r]) q_mono.2.2.2.2.2.1 ⟨h, inb_refl hr, trivial⟩ e
  exact ⟨t.1, (t.2 0).inB⟩
theorem fc_mono {r s : I} (hr : rt r = true) (hs : rt s = true) (x y : I) (h : InB x y) : (fcK KkR y r s).2 = 0 → (fcK KkR x r s).2 = 0 ∧ InB (gt (fcK KkR x r s).1 0) (gt (fcK KkR y r s).1 0) := by
  rw [fcK_eq, fcK_eq]
  intro e
  have t := box (v := [x, r, s]) (w := [y, r, s]) q_mono.2.2.2.2.2.2 ⟨h, inb_refl hr, inb_refl hs, trivial⟩ e
  exact ⟨t.1, (t.2 0).inB⟩
theorem dt_mono {v u v' u' : V3} (hv : InV3 v v') (hu : InV3 u u') : (dtK KkR v' u').2 = 0 → (dtK KkR v u).2 = 0 ∧ InB (dtV v u) (dtV v' u') := by
  unfold dtV
  rw [dtK_eq, dtK_eq]
  intro e
  have t := box (v := [u.z, u.y, u.x, v.z, v.y, v.x]) (w := [u'.z, u'.y, u'.x, v'.z, v'.y, v'.x]) box_lb.2.2.2.2.2.1 ⟨hu.z, hu.y, hu.x, hv.z, hv.y, hv.x, trivial⟩ e
  exact ⟨t.1, (t.2 0).inB⟩
theorem orV_mono {r s sl sl' : I} (h1 : Uz1 r) (h2 : Uz1 s) (n : InB sl sl') (hb : B11 sl') : InB (orV r s sl) (orV r s sl') := by
  rw [orV_eq, orV_eq]
  have t := box (v := [sl, s, r]) (w := [sl', s, r]) or_box.2.1 ⟨n, inb_refl h2.rt, inb_refl h1.rt, trivial⟩ (orV_box h1 h2 hb)
  exact (t.2 0).inB
theorem meO_z (f : Nat → F) (c : Nat) (v u : V3) (h : (meO KkR GmR f c v u).2 = 0) : (dtK KkR v u).2 = 0 := by
  unfold meO at h
  generalize dtK KkR v u = d at *
  cases e : neB d.2
  · exact neB_0 e
  · rw [e, cond_true] at h; exact h
theorem val3_eq (G : Gm) (K : Kk) (f : Nat → F) (c : Int) (v u : V3) : vlG G K ⟨3, f, c, v, u⟩ = meP K G f v u := rfl
theorem val4_eq (G : Gm) (K : Kk) (f : Nat → F) (c : Int) (v u : V3) : vlG G K ⟨4, f, c, v, u⟩ = meM K G f c.toNat v u := rfl
theorem gm_gl : GmR.gl = glR KkR GlR := by simp only [GmR]
theorem gm_dl : GmR.dl = fun c n => lnR (fdK KkR c n) 0 := by simp only [GmR]
theorem gm_cd : GmR.cd = fun c m n => lnR (fcK KkR c m n) 0 := by simp only [GmR]
theorem pF_rt (x : F) : rt (pF x) = true := decide_eq_true (Int.le_refl _)
theorem val1_eq (G : Gm) (K : Kk) (f : Nat → F) (c : Int) (v u : V3) : vlG G K ⟨1, f, c, v, u⟩ = meL G f c.toNat := rfl
theorem val2_eq (G : Gm) (K : Kk) (f : Nat → F) (c : Int) (v u : V3) : vlG G K ⟨2, f, c, v, u⟩ = meO K G f c.toNat v u := rfl
theorem gm_lb : GmR.lb = fun r => lnR (lbK KkR r) 0 := by simp only [GmR]
theorem den1_eq (G : Gm) (f : Nat → F) (c : Int) (v u : V3) : dnG4 G ⟨1, f, c, v, u⟩ = G.lb v.z := rfl
theorem den2_eq (G : Gm) (f : Nat → F) (c : Int) (v u : V3) : dnG4 G ⟨2, f, c, v, u⟩ = G.lb v.z := rfl
theorem den3_eq (G : Gm) (f : Nat → F) (c : Int) (v u : V3) : dnG4 G ⟨3, f, c, v, u⟩ = ((G.gl v u (pF (f 13))).1.d, (G.gl v u (pF (f 13))).2) := rfl
theorem den4_eq (G : Gm) (f : Nat → F) (c : Int) (v u : V3) : dnG4 G ⟨4, f, c, v, u⟩ = ((G.gl v u (pF (f 13))).1.d, (G.gl v u (pF (f 13))).2) := rfl
end Go.Proofs.YthclipfgcgoofaaGreat
namespace Bu
set_option linter.all false
open Rx Go
theorem kadd_0 {e : Int} {a b : I} (h : (KkR.add e a b).2 = 0) : e = 0 := (add_0 h).1
theorem ksub_0 {e : Int} {a b : I} (h : (KkR.sub e a b).2 = 0) : e = 0 := (sub_0 h).1
theorem kmul_0 {e : Int} {a b : I} (h : (KkR.mul e a b).2 = 0) : e = 0 := (mul_0 h).1
theorem ksqr_0 {e : Int} {a : I} (h : (KkR.sqr e a).2 = 0) : e = 0 := (sqr_0 h).1
theorem kadd_inn {e : Int} {a a' b b' : I} (ha : Inn a a') (hb : Inn b b') (h : (KkR.add e a' b').2 = 0) : ∃ r, KkR.add 0 a b = (r, 0) ∧ Inn r (KkR.add e a' b').1 := by
  obtain rfl := kadd_0 h; exact add_inn ha hb h
theorem ksub_inn {e : Int} {a a' b b' : I} (ha : Inn a a') (hb : Inn b b') (h : (KkR.sub e a' b').2 = 0) : ∃ r, KkR.sub 0 a b = (r, 0) ∧ Inn r (KkR.sub e a' b').1 := by
  obtain rfl := ksub_0 h; exact sub_inn ha hb h
theorem kmul_inn {e : Int} {a a' b b' : I} (ha : Inn a a') (hb : Inn b b') (h : (KkR.mul e a' b').2 = 0) : ∃ r, KkR.mul 0 a b = (r, 0) ∧ Inn r (KkR.mul e a' b').1 := by
  obtain rfl := kmul_0 h; exact mul_inn ha hb h
theorem ksqr_inn {e : Int} {a a' : I} (ha : Inn a a') (h : (KkR.sqr e a').2 = 0) : ∃ r, KkR.sqr 0 a = (r, 0) ∧ Inn r (KkR.sqr e a').1 := by
  obtain rfl := ksqr_0 h; exact sqr_inn ha h
theorem pt_rt (x : F) : rt (pt x) = true := decide_eq_true (Int.le_refl _)
theorem pt_inn (x : F) : Inn (pt x) (pt x) := Inn.refl (pt_rt x)
theorem knum_0 {e : Int} {x : F} (h : (KkR.num e x).2 = 0) : e = 0 := (num_0 h).1
theorem knum_inn {e : Int} {x : F} (h : (KkR.num e x).2 = 0) : KkR.num 0 x = (pt x, 0) ∧ Inn (pt x) (KkR.num e x).1 := by
  obtain rfl := knum_0 h; exact ⟨rfl, pt_inn x⟩
theorem mixK_inn {e : Int} {w : F} {a a' b b' : I} (ha : Inn a a') (hb : Inn b b') (h : (mixK KkR e w a' b').2 = 0) : e = 0 ∧ ∃ r, mixK KkR 0 w a b = (r, 0) ∧ Inn r (mixK KkR e w a' b').1 := by
  unfold mixK at h ⊢
  simp only [] at h ⊢
  have h6 := kadd_0 h
  have h5 := kmul_0 h6
  have h4 := knum_0 h5
  have h3 := kmul_0 h4
  have h2 := ksub_0 h3
  have h1 := knum_0 h2
  obtain ⟨n1, j1⟩ := knum_inn h1
  obtain ⟨n2, j2⟩ := knum_inn h2
  obtain ⟨s, e1, i1⟩ := ksub_inn j1 j2 h3
  obtain ⟨x, e2, i2⟩ := kmul_inn i1 ha h4
  obtain ⟨_, j3⟩ := knum_inn h5
  obtain ⟨y, e3, i3⟩ := kmul_inn j3 hb h6
  obtain ⟨z, e4, i4⟩ := kadd_inn i2 i3 h
  refine ⟨knum_0 h1, z, ?_, i4⟩
  simp only [n1, n2, e1, e2, e3, e4]
structure InC (a b : Ch) : Prop where
  p : Inn a.p b.p
  m : Inn a.m b.m
def InX (b a : Ch × Int) : Prop := a.2 = 0 → b.2 = 0 ∧ InC b.1 a.1
theorem mixC_inn {w : F} {a a' b b' : Ch} (ha : InC a a') (hb : InC b b') : InX (mixC KkR w a b) (mixC KkR w a' b') := by
  intro h
  unfold mixC at h ⊢
  obtain ⟨h1, m, e1, i1⟩ := mixK_inn ha.m hb.m h
  obtain ⟨_, p, e2, i2⟩ := mixK_inn ha.p hb.p h1
  simp only [e1, e2]
  exact ⟨trivial, i2, i1⟩
theorem coatC_inn {o o' : I} {a a' : Ch} (ho : Inn o o') (ha : InC a a') : InX (coatC KkR o a) (coatC KkR o' a') := by
  intro h
  unfold coatC lessK at h ⊢
  simp only [] at h ⊢
  have h4 := kadd_0 h
  have h3 := kmul_0 h4
  have h2 := kmul_0 h3
  have h1 := ksub_0 h2
  obtain ⟨n1, j1⟩ := knum_inn h1
  obtain ⟨s, e1, i1⟩ := ksub_inn j1 ho h2
  obtain ⟨x, e2, i2⟩ := kmul_inn i1 ha.p h3
  obtain ⟨y, e3, i3⟩ := kmul_inn i1 ha.m h4
  obtain ⟨z, e4, i4⟩ := kadd_inn ho i3 h
  simp only [n1, e1, e2, e3, e4]
  exact ⟨trivial, i2, i4⟩
theorem overC_inn {i i' o o' : I} {w : F} {a a' : Ch} (hi : Inn i i') (ho : Inn o o') (ha : InC a a') : InX (overC KkR i o w a) (overC KkR i' o' w a') := by
  intro h
  unfold overC at h ⊢
  simp only [] at h ⊢
  have h10 := kadd_0 h
  have h9 := kmul_0 h10
  have h8 := kmul_0 h9
  have h7 := ksqr_0 h8
  have h6 := kmul_0 h7
  have h5 := kmul_0 h6
  have h4 := kmul_0 h5
  have h3 := ksub_0 h4
  have h2 := ksub_0 h3
  have h1 := knum_0 h2
  obtain ⟨n1, j1⟩ := knum_inn h1
  obtain ⟨n2, j2⟩ := knum_inn h2
  obtain ⟨s, e1, i1⟩ := ksub_inn j1 ho h3
  obtain ⟨j, e2, i2⟩ := ksub_inn j1 hi h4
  obtain ⟨x, e3, i3⟩ := kmul_inn i2 i1 h5
  obtain ⟨y, e4, i4⟩ := kmul_inn i3 j2 h6
  obtain ⟨f, e5, i5⟩ := kmul_inn i4 ha.p h7
  obtain ⟨q, e6, i6⟩ := ksqr_inn i1 h8
  obtain ⟨t, e7, i7⟩ := kmul_inn i6 j2 h9
  obtain ⟨z, e8, i8⟩ := kmul_inn i7 ha.m h10
  obtain ⟨r, e9, i9⟩ := kadd_inn ho i8 h
  simp only [n1, n2, e1, e2, e3, e4, e5, e6, e7, e8, e9]
  exact ⟨trivial, i5, i9⟩
end Bu
namespace Go.Proofs.YthclipfgcgoofaaGreat
set_option linter.all false
open Go.RowKit Bu Rx
def InQ (b a : I × Int) : Prop := a.2 = 0 → b.2 = 0 ∧ InB b.1 a.1
theorem glM_inq {g g' : Gl4 × Int} {r r' : I × Int} (hg : g'.2 = 0 → g.2 = 0 ∧ InB g.1.v g'.1.v) (hr : g'.2 = 0 → r'.2 = 0 → r.2 = 0 ∧ InB r.1 r'.1) : InQ (glM KkR g r) (glM KkR g' r') := by
  intro h
  obtain ⟨g0, r0, m0, e⟩ := glM_inv h
  obtain ⟨a, b⟩ := hg g0
  obtain ⟨c, d⟩ := hr g0 r0
  rw [e]
  obtain ⟨x, e2, n2⟩ := mul_inn b.inn d.inn (show (cMul dMul 0 g'.1.v r'.1).2 = 0 from m0)
  have m1 : KkR.mul 0 g.1.v r.1 = (x, 0) := e2
  obtain ⟨g, eg⟩ := g
  obtain ⟨r, er⟩ := r
  simp only at a c m1
  subst a; subst c
  rw [glM_in (congrArg Prod.snd m1)]
  refine ⟨rfl, ?_⟩
  rw [show (KkR.mul 0 g.v r).1 = x from congrArg Prod.fst m1]
  exact n2.inB
theorem mir_inq {g g' : Gl4 × Int} {Fn : I → List I × Int} (hm : ∀ x y, InB x y → (Fn y).2 = 0 → (Fn x).2 = 0 ∧ InB (gt (Fn x).1 0) (gt (Fn y).1 0)) (hv : g'.2 = 0 → g.2 = 0 ∧ InB g.1.v g'.1.v ∧ InB g.1.hf g'.1.hf) :
    InQ (glM KkR g (lnR (Fn g.1.hf) 0)) (glM KkR g' (lnR (Fn g'.1.hf) 0)) :=
  glM_inq (fun g0 => ⟨(hv g0).1, (hv g0).2.1⟩) (fun g0 => ln_inn fun e => hm _ _ (hv g0).2.2 e)
theorem orR_inq {r s i o d i' o' d' : I} (h1 : Uz1 r) (h2 : Uz1 s) (hi : InB i i') (ho : InB o o') (hd : InB d d') : InQ (orR KkR r s i o d) (orR KkR r s i' o' d') := by
  intro h
  obtain ⟨sl', s', e'⟩ := or_to h1 h2 h
  obtain ⟨sl, s, n⟩ := sl_inn hi.inn ho.inn hd.inn s'
  rw [e', or_eq h1 h2 s]
  exact ⟨rfl, orV_mono h1 h2 n.inB (sl_b s')⟩
theorem meO_inq {f : Nat → F} {c : Nat} {v u v' u' : V3} (hv : InV3 v v') (hu : InV3 u u') (h1 : Uz1 (pF (f c))) (h2 : Uz1 (pF (f 12))) : InQ (meO KkR GmR f c v u) (meO KkR GmR f c v' u') := by
  intro h
  have z' := meO_z _ _ _ _ h
  obtain ⟨z, n⟩ := dt_mono hv hu z'
  rw [meO_eq z'] at h
  rw [meO_eq z', meO_eq z]
  exact orR_inq h1 h2 hv.z hu.z n h
theorem meP_inq {f : Nat → F} {v u v' u' : V3} (hv : InV3 v v') (hu : InV3 u u') : InQ (meP KkR GmR f v u) (meP KkR GmR f v' u') := by
  unfold meP
  rw [gm_gl, gm_dl]
  exact mir_inq (Fn := fun h => fdK KkR h (pF (f 14))) (fd_mono (pF_rt _)) (gl_inn3 hv hu (pF_rt _))
theorem meM_inq {f : Nat → F} {c : Nat} {v u v' u' : V3} (hv : InV3 v v') (hu : InV3 u u') : InQ (meM KkR GmR f c v u) (meM KkR GmR f c v' u') := by
  unfold meM
  rw [gm_gl, gm_cd]
  exact mir_inq (Fn := fun h => fcK KkR h (pF (f (6 + c))) (pF (f (9 + c)))) (fc_mono (pF_rt _) (pF_rt _)) (gl_inn3 hv hu (pF_rt _))
theorem lb_inq {a b : I} (h : InB a b) : InQ (lnR (lbK KkR a) 0) (lnR (lbK KkR b) 0) := by
  intro e
  have e' := lnR_inv e
  have t : (lbK KkR a).2 = 0 ∧ InB (gt (lbK KkR a).1 0) (gt (lbK KkR b).1 0) := by
    rw [lbK_eq2] at e'
    rw [lbK_eq2, lbK_eq2]
    have t := box (v := [a]) (w := [b]) box_lb.1 ⟨h, trivial⟩ e'
    exact ⟨t.1, (t.2 0).inB⟩
  rw [lnR_0 e', lnR_0 t.1]
  exact ⟨rfl, t.2⟩
theorem meL_inq (f : Nat → F) (c : Nat) : InQ (meL GmR f c) (meL GmR f c) := by
  unfold meL
  rw [gm_lb]
  exact lb_inq (inb_refl (pF_rt _))
theorem val_inq {l m : Lf} (hl : LfO l) (ek : m.k = l.k) (ef : m.f = l.f) (ec : m.c = l.c) (hv : InV3 m.v l.v) (hu : InV3 m.u l.u) : InQ (vlG GmR KkR m) (vlG GmR KkR l) := by
  obtain ⟨k, f, c, v, u⟩ := m
  obtain ⟨k', f', c', v', u'⟩ := l
  simp only at ek ef ec hv hu
  subst ek; subst ef; subst ec
  have r := hl.r; have n := hl.n
  simp only at r n
  rcases rt_kind r with e | e | e | e <;> subst e
  · rw [val1_eq, val1_eq]; exact meL_inq _ _
  · rw [val2_eq, val2_eq]
    obtain ⟨a, b⟩ := rt2_in r n
    exact meO_inq hv hu (uz_of a) (uz_of b)
  · rw [val3_eq, val3_eq]; exact meP_inq hv hu
  · rw [val4_eq, val4_eq]; exact meM_inq hv hu
theorem gd_inq {v u v' u' : V3} {al : I} (hv : InV3 v v') (hu : InV3 u u') (ha : rt al = true) : InQ ((glR KkR GlR v u al).1.d, (glR KkR GlR v u al).2) ((glR KkR GlR v' u' al).1.d, (glR KkR GlR v' u' al).2) := by
  intro e
  have q := gl_inn hv hu ha e
  rw [q.e, q.e']
  exact ⟨rfl, q.gd⟩
theorem den_inq {l m : Lf} (hl : LfO l) (ek : m.k = l.k) (ef : m.f = l.f) (hv : InV3 m.v l.v) (hu : InV3 m.u l.u) : InQ (dnG4 GmR m) (dnG4 GmR l) := by
  obtain ⟨k, f, c, v, u⟩ := m
  obtain ⟨k', f', c', v', u'⟩ := l
  simp only at ek ef hv hu
  subst ek; subst ef
  have r := hl.r
  simp only at r
  rcases rt_kind r with e | e | e | e <;> subst e
  · rw [den1_eq, den1_eq, gm_lb]; exact lb_inq hv.z
  · rw [den2_eq, den2_eq, gm_lb]; exact lb_inq hv.z
  · rw [den3_eq, den3_eq, gm_gl]; exact gd_inq hv hu (pF_rt _)
  · rw [den4_eq, den4_eq, gm_gl]; exact gd_inq hv hu (pF_rt _)
theorem D_inq {c c' : I} (x : F) (h : InB c c') : InQ (NdR.D c (pF x)) (NdR.D c' (pF x)) := ln_inn (fd_mono (pF_rt x) c c' h)
def LfsQ (lf lf' : Nd → I × Int) (n : Nd) : Prop := n.k ≠ 5 → n.k ≠ 6 → InQ (lf n) (lf' n)
theorem ch0_inn : Inn Ch.zero.m Ch.zero.m := Inn.refl (by decide)
theorem nod_inq {cos cos' : I} {lf lf' : Nd → I × Int} {l l' : Nat → Ch} {n : Nd} (hc : InB cos cos') (hf : LfsQ lf lf' n) (ha : n.k = 5 ∨ n.k = 6 → InC (l n.a.toNat) (l' n.a.toNat)) (hb : n.k = 5 → InC (l n.b.toNat) (l' n.b.toNat))
    (h : nodE NdR cos' lf' l' n = 0) : nodE NdR cos lf l n = 0 ∧ InC (nodC NdR cos lf l n).1 (nodC NdR cos' lf' l' n).1 := by
  unfold nodE at h ⊢
  unfold nodC at h ⊢
  by_cases h5 : n.k = 5
  · have h6 : n.k ≠ 6 := by omega
    simp only [decide_eq_true h5, decide_eq_false h6, cond_true, cond_false] at h ⊢
    exact mixC_inn (ha (.inl h5)) (hb h5) h
  · by_cases h6 : n.k = 6
    · simp only [decide_eq_false h5, decide_eq_true h6, cond_true, cond_false] at h ⊢
      by_cases d : (NdR.D cos' ⟨n.f 14, n.f 14⟩).2 = 0
      · rw [decide_eq_true d, cond_true] at h
        obtain ⟨d1, d2⟩ := D_inq (n.f 14) hc d
        have d1' : (NdR.D cos ⟨n.f 14, n.f 14⟩).2 = 0 := d1
        rw [decide_eq_true d1', cond_true]
        exact coatC_inn d2.inn (ha (.inr h6)) h
      · rw [decide_eq_false d, cond_false] at h; exact absurd h d
    · simp only [decide_eq_false h5, decide_eq_false h6, cond_false] at h ⊢
      obtain ⟨a, b⟩ := hf h5 h6 h
      exact ⟨a, b.inn, ch0_inn⟩
theorem da_inn {cos cos' : I} {lf lf' : Nd → I × Int} {cs : List SV} {len : Nat} (K : OkPg cs len) (hc : InB cos cos') (hf : ∀ i, i < len → LfsQ lf lf' (ndR cs (i * 19))) (h : daE NdR cos' lf' cs len = 0) :
    ∀ i, i < len → daF NdR cos lf cs i = 0 ∧ InC (chF (allF NdR cos lf cs) i) (chF (allF NdR cos' lf' cs) i) := by
  intro i
  induction i using Nat.strongRecOn with
  | _ i ih =>
    intro hi
    have hnd := K.nd i hi
    have g : ∀ {c : I} {f : Nd → I × Int} {a : Int}, 0 ≤ a → a < i → daL NdR c f cs i a.toNat = chF (allF NdR c f cs) a.toNat := fun _ _ => chL_get _ (by omega)
    refine nod_inq hc (hf i hi) (fun h56 => ?_) (fun h5 => ?_) (daE_0 h i hi)
    · have k : 0 ≤ (ndR cs (i * 19)).a ∧ (ndR cs (i * 19)).a < i := by
        rcases h56 with h5 | h6
        · exact (okNd_mix hnd h5).1
        · exact okNd_coat hnd h6
      show InC (daL NdR cos lf cs i (ndR cs (i * 19)).a.toNat) (daL NdR cos' lf' cs i (ndR cs (i * 19)).a.toNat)
      rw [g k.1 k.2, g k.1 k.2]
      exact (ih _ (by omega) (by omega)).2
    · have k := (okNd_mix hnd h5).2
      show InC (daL NdR cos lf cs i (ndR cs (i * 19)).b.toNat) (daL NdR cos' lf' cs i (ndR cs (i * 19)).b.toNat)
      rw [g k.1 k.2, g k.1 k.2]
      exact (ih _ (by omega) (by omega)).2
theorem daE_z {N : Nde} {cos : I} {lf : Nd → I × Int} {cs : List SV} : ∀ {j : Nat}, (∀ i, i < j → daF N cos lf cs i = 0) → daE N cos lf cs j = 0
  | 0, _ => rfl
  | j + 1, h => by
    have e : daE N cos lf cs (j + 1) = bif decide (daE N cos lf cs j = 0) then daF N cos lf cs j else daE N cos lf cs j := rfl
    rw [e, decide_eq_true (daE_z fun i hi => h i (by omega)), cond_true]
    exact h j (by omega)
theorem i0_inn : Inn I.zero I.zero := Inn.refl (by decide)
theorem evN_inq {v u v' u' : V3} {k : Nat} {l l' : Nat → Ch} {n : Nd} (hv : InV3 v v') (hu : InV3 u u') (d1 : n.k = 6 → (NeR.D v'.z ⟨n.f 14, n.f 14⟩).2 = 0) (d2 : n.k = 6 → (NeR.D u'.z ⟨n.f 14, n.f 14⟩).2 = 0)
    (hf : n.k ≠ 5 → n.k ≠ 6 → InQ (NeR.g (lfE v u k n)) (NeR.g (lfE v' u' k n))) (ha : n.k = 5 ∨ n.k = 6 → InC (l n.a.toNat) (l' n.a.toNat)) (hb : n.k = 5 → InC (l n.b.toNat) (l' n.b.toNat)) : InX (evN NeR v u k l n) (evN NeR v' u' k l' n) := by
  intro h
  unfold evN at h ⊢
  by_cases h5 : n.k = 5
  · rw [decide_eq_true h5, cond_true] at h ⊢
    rw [cond_true]
    exact mixC_inn (ha (.inl h5)) (hb h5) h
  · rw [decide_eq_false h5, cond_false] at h ⊢
    rw [cond_false]
    by_cases h6 : n.k = 6
    · rw [decide_eq_true h6, cond_true] at h ⊢
      rw [cond_true]
      have a1 := (D_inq (n.f 14) hv.z (d1 h6)).2
      have a2 := (D_inq (n.f 14) hu.z (d2 h6)).2
      exact overC_inn a1.inn a2.inn (ha (.inr h6)) h
    · rw [decide_eq_false h6, cond_false] at h ⊢
      rw [cond_false]
      obtain ⟨a, b⟩ := hf h5 h6 h
      exact ⟨a, b.inn, i0_inn⟩
theorem evr_inq {v u v' u' : V3} {l l' : Nat → Nat → Ch} {n : Nd} (hv : InV3 v v') (hu : InV3 u u') (hf : n.k ≠ 5 → n.k ≠ 6 → ∀ k, k < 3 → InQ (NeR.g (lfE v u k n)) (NeR.g (lfE v' u' k n)))
    (ha : n.k = 5 ∨ n.k = 6 → ∀ k, k < 3 → InC (l k n.a.toNat) (l' k n.a.toNat)) (hb : n.k = 5 → ∀ k, k < 3 → InC (l k n.b.toNat) (l' k n.b.toNat)) (h : evEr NeR v' u' l' n = 0) :
    evEr NeR v u l n = 0 ∧ ∀ k, k < 3 → InC (evN NeR v u k (l k) n).1 (evN NeR v' u' k (l' k) n).1 := by
  have D : n.k = 6 → (NeR.D v'.z ⟨n.f 14, n.f 14⟩).2 = 0 ∧ (NeR.D u'.z ⟨n.f 14, n.f 14⟩).2 = 0 := by
    intro h6
    unfold evEr at h
    rw [decide_eq_true h6, cond_true] at h
    by_cases d1 : (NeR.D v'.z ⟨n.f 14, n.f 14⟩).2 = 0
    · rw [decide_eq_true d1, cond_true] at h
      by_cases d2 : (NeR.D u'.z ⟨n.f 14, n.f 14⟩).2 = 0
      · exact ⟨d1, d2⟩
      · rw [decide_eq_false d2, cond_false] at h; exact absurd h d2
    · rw [decide_eq_false d1, cond_false] at h; exact absurd h d1
  have F : fst3 (evN NeR v' u' 0 (l' 0) n).2 (evN NeR v' u' 1 (l' 1) n).2 (evN NeR v' u' 2 (l' 2) n).2 = 0 := by
    unfold evEr at h
    by_cases h6 : n.k = 6
    · rw [decide_eq_true h6, cond_true, decide_eq_true (D h6).1, cond_true, decide_eq_true (D h6).2, cond_true] at h
      exact h
    · rw [decide_eq_false h6, cond_false] at h; exact h
  obtain ⟨f0, f1, f2⟩ := fst3_0 F
  have X : ∀ k, k < 3 → InX (evN NeR v u k (l k) n) (evN NeR v' u' k (l' k) n) := fun k hk => evN_inq hv hu (fun h6 => (D h6).1) (fun h6 => (D h6).2) (fun h5 h6 => hf h5 h6 k hk) (fun h => ha h k hk) (fun h => hb h k hk)
  obtain ⟨x0, y0⟩ := X 0 (by omega) f0
  obtain ⟨x1, y1⟩ := X 1 (by omega) f1
  obtain ⟨x2, y2⟩ := X 2 (by omega) f2
  refine ⟨?_, fun k hk => ?_⟩
  · unfold evEr
    have F' : fst3 (evN NeR v u 0 (l 0) n).2 (evN NeR v u 1 (l 1) n).2 (evN NeR v u 2 (l 2) n).2 = 0 := by rw [x0, x1, x2]; rfl
    by_cases h6 : n.k = 6
    · have g1 : (NeR.D v.z ⟨n.f 14, n.f 14⟩).2 = 0 := (D_inq (n.f 14) hv.z (D h6).1).1
      have g2 : (NeR.D u.z ⟨n.f 14, n.f 14⟩).2 = 0 := (D_inq (n.f 14) hu.z (D h6).2).1
      rw [decide_eq_true h6, cond_true, decide_eq_true g1, cond_true, decide_eq_true g2, cond_true]
      exact F'
    · rw [decide_eq_false h6, cond_false]; exact F'
  · rcases (by omega : k = 0 ∨ k = 1 ∨ k = 2) with rfl | rfl | rfl
    · exact y0
    · exact y1
    · exact y2
theorem evE_0' {N : Nde} {v u : V3} {cs : List SV} : ∀ {j : Nat}, evE N v u cs j = 0 → ∀ i, i < j → evF N v u cs i = 0
  | 0, _, i, hi => by omega
  | j + 1, h, i, hi => by
    have e : evE N v u cs (j + 1) = bif decide (evE N v u cs j = 0) then evF N v u cs j else evE N v u cs j := rfl
    rw [e] at h
    by_cases hj : evE N v u cs j = 0
    · rw [decide_eq_true hj, cond_true] at h
      rcases Nat.lt_or_ge i j with h1 | h1
      · exact evE_0' hj i h1
      · obtain rfl : i = j := by omega
        exact h
    · rw [decide_eq_false hj, cond_false] at h; exact absurd h hj
theorem evE_z {N : Nde} {v u : V3} {cs : List SV} : ∀ {j : Nat}, (∀ i, i < j → evF N v u cs i = 0) → evE N v u cs j = 0
  | 0, _ => rfl
  | j + 1, h => by
    have e : evE N v u cs (j + 1) = bif decide (evE N v u cs j = 0) then evF N v u cs j else evE N v u cs j := rfl
    rw [e, decide_eq_true (evE_z fun i hi => h i (by omega)), cond_true]
    exact h j (by omega)
theorem ev_inn {v u v' u' : V3} {cs : List SV} {len : Nat} (K : OkPg cs len) (hv : InV3 v v') (hu : InV3 u u') (hf : ∀ i, i < len → (ndR cs (i * 19)).k ≠ 5 → (ndR cs (i * 19)).k ≠ 6 → ∀ k, k < 3 → InQ (NeR.g (lfE v u k (ndR cs (i * 19)))) (NeR.g (lfE v' u' k (ndR cs (i * 19))))) (h : evE NeR v' u' cs len = 0) :
    ∀ i, i < len → evF NeR v u cs i = 0 ∧ ∀ k, k < 3 → InC (ltF NeR v u cs k i) (ltF NeR v' u' cs k i) := by
  intro i
  induction i using Nat.strongRecOn with
  | _ i ih =>
    intro hi
    have hnd := K.nd i hi
    have g : ∀ {v u : V3} {k : Nat} {a : Int}, 0 ≤ a → a < i → evL NeR v u cs i k a.toNat = ltF NeR v u cs k a.toNat := fun _ _ => chL_get _ (by omega)
    have M : ∀ {a : Int}, 0 ≤ a → a < i → ∀ k, k < 3 → InC (evL NeR v u cs i k a.toNat) (evL NeR v' u' cs i k a.toNat) := fun a0 a1 k hk => by
      rw [g a0 a1, g a0 a1]
      exact (ih _ (by omega) (by omega)).2 k hk
    exact evr_inq hv hu (hf i hi) (fun h56 => M (h56.elim (fun h5 => (okNd_mix hnd h5).1.1) fun h6 => (okNd_coat hnd h6).1) (h56.elim (fun h5 => (okNd_mix hnd h5).1.2) fun h6 => (okNd_coat hnd h6).2)) (fun h5 => M (okNd_mix hnd h5).2.1 (okNd_mix hnd h5).2.2) (evE_0' h i hi)
end Go.Proofs.YthclipfgcgoofaaGreat
namespace Bu
set_option linter.all false
open Rx Go
theorem CellsAt.left {a b cs : List SV} {off : Nat} (h : CellsAt a off cs) : CellsAt (a ++ b) off cs := fun j x hx => by
  have := h j x hx
  rw [List.getElem?_append_left (List.getElem?_eq_some_iff.1 this).1]; exact this
theorem CellsAt.right (a b : List SV) : CellsAt (a ++ b) a.length b := fun j x hx => by
  rw [List.getElem?_append_right (by omega), show a.length + j - a.length = j by omega]; exact hx
theorem nd_of {cells cs : List SV} {off : Nat} (h : CellsAt cells off cs) (hk : ckAll cs 0 ndCK = true) : ckAll cells off ndCK = true ∧ ndR cells off = ndR cs 0 := by
  obtain ⟨a, b⟩ := at_row h hk
  rw [Nat.add_zero] at a b
  refine ⟨b, ?_⟩
  have e := nd_row cells off
  rw [a, nd_row cs 0] at e
  exact (Option.some.inj e).symm
end Bu
namespace Go.Proofs.YthclipfgcgoofaaGreat
set_option linter.all false
open Go.RowKit Bu Rx
def rowP (N : Npr) (U : Nat → U8) : Nat → List SV
  | 0 => nzC (N.k (U 0)) (N.f (U 0))
  | j + 1 => rowN N (U (j + 1)) (j + 1)
theorem prgC_row (N : Npr) (U : Nat → U8) : ∀ {k j : Nat}, j ≤ k → CellsAt (prgC N U k) (j * 19) (rowP N U j)
  | 0, j, h => by
    obtain rfl : j = 0 := by omega
    intro i x hx
    rw [Nat.zero_mul, Nat.zero_add]; exact hx
  | k + 1, j, h => by
    rcases Nat.lt_or_ge j (k + 1) with h1 | h1
    · exact CellsAt.left (prgC_row N U (k := k) (j := j) (by omega))
    · obtain rfl : j = k + 1 := by omega
      have := CellsAt.right (prgC N U k) (rowN N (U (k + 1)) (k + 1))
      rw [prgC_len] at this
      exact this
theorem rowP_ck (N : Npr) (U : Nat → U8) : ∀ j, ckAll (rowP N U j) 0 ndCK = true
  | 0 => rfl
  | j + 1 => by
    show ckAll (rowN N (U (j + 1)) (j + 1)) 0 ndCK = true
    unfold rowN
    cases decide (prT (U (j + 1)) = 0)
    · cases decide (prT (U (j + 1)) = 1) || decide (prT (U (j + 1)) = 2) <;> rfl
    · rfl
theorem rowP_pl (N : Npr) (U : Nat → U8) : ∀ j, ∃ vs, plains (rowP N U j) = some vs
  | 0 => ⟨_, rfl⟩
  | j + 1 => by
    show ∃ vs, plains (rowN N (U (j + 1)) (j + 1)) = some vs
    unfold rowN
    cases decide (prT (U (j + 1)) = 0)
    · cases decide (prT (U (j + 1)) = 1) || decide (prT (U (j + 1)) = 2) <;> exact ⟨_, rfl⟩
    · exact ⟨_, rfl⟩
theorem prgC_pl (N : Npr) (U : Nat → U8) : ∀ k, ∃ vs, plains (prgC N U k) = some vs
  | 0 => rowP_pl N U 0
  | k + 1 => by
    obtain ⟨a, ha⟩ := prgC_pl N U k
    obtain ⟨b, hb⟩ := rowP_pl N U (k + 1)
    exact ⟨a ++ b, plains_app ha hb⟩
theorem tmod_in {a : Int} {n : Nat} (ha : 0 ≤ a) (h1 : 1 ≤ n) (h8 : n ≤ 8) : 0 ≤ IntKind.i64.wrap (a.tmod (IntKind.u32.wrap (n : Int))) ∧ IntKind.i64.wrap (a.tmod (IntKind.u32.wrap (n : Int))) < n := by
  rw [u32_small h8, Int.tmod_eq_emod_of_nonneg ha, IntKind.wrap_i64]
  have h2 := Int.emod_nonneg a (show (n : Int) ≠ 0 by omega)
  have h3 := Int.emod_lt_of_pos a (show 0 < (n : Int) by omega)
  omega
theorem w32_nn {n : Int} (h : wN32 n = true) : 0 ≤ n := (of_decide_eq_true h).1
theorem nd_co (n t0 t1 t2 : F) (a : Int) : ndR (coC n t0 t1 t2 a) 0 = ⟨6, ndM z64 z64 z64 t0 t1 t2 z64 z64 z64 z64 z64 z64 z64 z64 n z64, a, 0⟩ := by kernel_rfl
theorem nd_mx (w : F) (a b : Int) : ndR (mxC w a b) 0 = ⟨5, ndM z64 z64 z64 z64 z64 z64 z64 z64 z64 z64 z64 z64 z64 z64 z64 w, a, b⟩ := by kernel_rfl
theorem nd_lf (u : U8) : ndR (nzC (leK u) (leF bwF u)) 0 = leNd u := by kernel_rfl
theorem okNd_row {u : U8} {n : Nat} (hu : prgB NprR u = true) (h1 : 1 ≤ n) (h8 : n ≤ 8) : okNd (ndR (rowN NprR u n) 0) n = true := by
  unfold prgB at hu
  simp only [Bool.and_eq_true] at hu
  obtain ⟨o, w3, w4, w5, w6⟩ := hu
  have ok : u.ok = true := o
  unfold U8.ok at ok
  simp only [Bool.and_eq_true] at ok
  obtain ⟨_, a1, a2, _⟩ := ok
  have m1 := tmod_in (w32_nn a1) h1 h8
  have m2 := tmod_in (w32_nn a2) h1 h8
  unfold rowN
  cases decide (prT u = 0)
  · cases decide (prT u = 1) || decide (prT u = 2)
    · show okNd (ndR (coC (bwF minIo four64 u.a3) (frT u.a4) (frT u.a5) (frT u.a6) (prA u n)) 0) n = true
      rw [nd_co]
      exact okNd_6 (bw_rn rk_le.2.2.1) (fr_rn w4) (fr_rn w5) (fr_rn w6) m1.1 m1.2
    · show okNd (ndR (mxC (frT u.a3) (prA u n) (prB u n)) 0) n = true
      rw [nd_mx]
      exact okNd_5 (fr_rn w3) m1.1 m1.2 m2.1 m2.2
  · show okNd (ndR (nzC (leK u) (leF bwF u)) 0) n = true
    rw [nd_lf]
    exact okNd_le u n
theorem okPg_prg {U : Nat → U8} {k : Nat} (hk : k ≤ 8) (hU : ∀ j, j ≤ k → prgB NprR (U j) = true) : okPg (prgC NprR U k) (k + 1) = true := by
  obtain ⟨vs, hv⟩ := prgC_pl NprR U k
  refine okPg_mk (by rw [hv]; rfl) (by omega) (by omega) fun i hi => ?_
  obtain ⟨c1, c2⟩ := nd_of (prgC_row NprR U (k := k) (j := i) (by omega)) (rowP_ck NprR U i)
  refine okAt_n c1 c2 ?_
  cases i with
  | zero =>
    show okNd (ndR (nzC (leK (U 0)) (leF bwF (U 0))) 0) _ = true
    rw [nd_lf]
    exact okNd_le _ _
  | succ i => exact okNd_row (hU (i + 1) (by omega)) (by omega) (by omega)
theorem u8Z_B : prgB NprR u8Z = true := by decide +kernel
theorem prog_ok {cs : List SV} {len : Nat} (h : prInB NprR cs len = true) : okPg (prgC NprR (prU cs len) (prK len)) (prK len + 1) = true ∧ prK len ≤ 7 := by
  have K := prInB_ok h
  have h7 : prK len ≤ 7 := by
    rcases Nat.eq_zero_or_pos len with h0 | h0
    · subst h0; rw [prK_0]; omega
    · have := (prK_s h0).1; omega
  refine ⟨okPg_prg (by omega) fun j hj => ?_, h7⟩
  unfold prU
  cases len with
  | zero => exact u8Z_B
  | succ n =>
    have := (prK_s (len := n + 1) (by omega)).1
    exact K.ok j (by omega) (by omega)
def prgB_O (g : List SV → Nat → List SV) (b : List SV → Nat → Bool) : OF := eiO (kPr g b) (kPz g)
def u6B (u : U6) : List SV := [.si .u32 u.a0, .si .u32 u.a1, .si .u32 u.a2, .si .u32 u.a3, .si .u32 u.a4, .si .u32 u.a5]
structure Nwn where
  M : Nm
  g : List SV → Nat → List SV
  b : List SV → Nat → Bool
  C : Nce
  E : Nev
def OWn (W : Nwn) : OracleF := lookO [(15, prgB_O W.g W.b), (23, plainO (kTw W.M.N.ta W.M.N.tb W.M.N.tw)), (26, kRd 19 (kCe W.C)), (27, kRd 19 (kEv_ W.E)), (71, plainO (kWd W.M.wi W.M.wp)), (72, plainO (kSp W.M.sp W.M.pp W.M.wu)), (28, plainO (kBII W.M.ii)), (29, plainO (oConst (.b true)))]
noncomputable def wnC : Code := bodyOf Tryz.prog 5
theorem wnBody : Tryz.f5.body = some wnC := by kernel_rfl
structure W19 where
  u : U6
  y : Int
  w : U6
  x : U6
def W19.args (q : W19) : List SV := [q.u.sv, .si .u8 q.y, q.w.sv, q.x.sv]
noncomputable def wnA (el : TypeId) (z : Nat × Nat) (cells : List SV) (off len cap : Nat) (q : W19) : St := ⟨(.ssl 0 off len cap :: q.args) ++ List.replicate (Tryz.f5.ntmps - 5) (.tup []), [⟨el, cells, .ro z⟩], none, []⟩
noncomputable def wnZ (q : W19) : St := ⟨(.o (.slice none 0 0) :: q.args) ++ List.replicate (Tryz.f5.ntmps - 5) (.tup []), [], none, []⟩
noncomputable abbrev wnA2 (W : Nwn) (el : TypeId) (z : Nat × Nat) (cells : List SV) (off len cap : Nat) (q : W19) : St := aftN Tryz.prog EG (OWn W) 60 2 wnC (wnA el z cells off len cap q)
noncomputable abbrev wnZ2 (W : Nwn) (q : W19) : St := aftN Tryz.prog EG (OWn W) 60 2 wnC (wnZ q)
theorem wnLa (W : Nwn) (el : TypeId) (z : Nat × Nat) (cells : List SV) (off len cap : Nat) (q : W19) : LandsN Tryz.prog EG (OWn W) 60 2 wnC (wnA el z cells off len cap q) := by unfold LandsN; kernel_rfl
theorem wnLz (W : Nwn) (q : W19) : LandsN Tryz.prog EG (OWn W) 60 2 wnC (wnZ q) := by unfold LandsN; kernel_rfl
def wnT (n : Nat) (q : W19) (x : Nat → SV) : List SV :=
  [x 0, x 1, .si .u8 q.y, x 3, x 4, x 5, .p 0 0, x 7, .p 1 0, .p 2 0, .b false, .osl true 3 n, x 12, x 13, x 14, x 15, x 16, x 17, x 18, x 19, x 20, x 21, x 22, x 23, x 24, x 25, x 26, x 27, x 28, x 29, x 30, x 31, x 32, x 33, x 34, x 35, x 36, x 37, x 38, x 39, x 40, x 41, x 42, x 43, x 44, x 45, x 46, x 47, x 48, x 49, x 50, x 51, x 52, x 53, x 54, x 55, x 56, x 57, x 58, x 59, x 60, x 61, x 62, x 63, x 64, x 65, x 66, x 67, x 68, x 69, x 70, x 71, x 72, x 73, x 74, x 75, x 76, x 77, x 78, x 79, x 80, x 81, x 82, x 83, x 84, x 85, x 86, x 87, x 88, x 89, x 90, x 91, x 92, x 93, x 94, x 95, x 96, x 97, x 98, x 99, x 100, x 101, x 102, x 103, x 104, x 105, x 106, x 107, x 108, x 109, x 110, x 111, x 112, x 113, x 114, x 115, x 116, x 117, x 118, x 119, x 120, x 121, x 122, x 123, x 124, x 125, x 126, x 127, x 128, x 129, x 130, x 131, x 132, x 133, x 134, x 135, x 136, x 137, x 138, x 139, x 140]
def wnM (pc : List SV) (q : W19) : List Blk := [⟨46, u6B q.u, .ex⟩, ⟨46, u6B q.w, .ex⟩, ⟨46, u6B q.x, .ex⟩, ⟨69, pc, .rown 19⟩]
def wnS (pc : List SV) (n : Nat) (q : W19) (x : Nat → SV) (d : Dec) : St := ⟨wnT n q x, wnM pc q, d, []⟩
section
variable (W : Nwn) (el : TypeId) (z : Nat × Nat) (cells : List SV) (off len cap : Nat) (q : W19)
theorem wnOa : (wnA2 W el z cells off len cap q).ob = [(decide (len ≤ cap), true), (W.b ((cells.drop off).take (len * 8)) len, true)] := by kernel_rfl
theorem wnOz : (wnZ2 W q).ob = [] := by kernel_rfl
theorem wnRa : ∃ rest, (wnA2 W el z cells off len cap q).M = [⟨el, cells, .ro z⟩] ++ rest := ⟨[⟨46, u6B q.u, .ex⟩, ⟨46, u6B q.w, .ex⟩, ⟨46, u6B q.x, .ex⟩, ⟨69, W.g ((cells.drop off).take (len * 8)) len, .rown 19⟩], by kernel_rfl⟩
theorem wnMa : selM (wnA2 W el z cells off len cap q).M [1, 2, 3, 4] = some (wnM (W.g ((cells.drop off).take (len * 8)) len) q) := by kernel_rfl
theorem wnMz : selM (wnZ2 W q).M [0, 1, 2, 3] = some (wnM (W.g [] 0) q) := by kernel_rfl
noncomputable def wnXa (v : Nat → Value) : Nat → SV := fun j => ((wnA2 W el z cells off len cap q).sel [1, 2, 3, 4] [] v).T.getD j .np
noncomputable def wnXz (v : Nat → Value) : Nat → SV := fun j => ((wnZ2 W q).sel [0, 1, 2, 3] [] v).T.getD j .np
theorem wnTa (v : Nat → Value) (M' : List Blk) : ((wnA2 W el z cells off len cap q).sel [1, 2, 3, 4] M' v).T = wnT (prK len + 1) q (wnXa W el z cells off len cap q v) := by kernel_rfl
theorem wnTz (v : Nat → Value) (M' : List Blk) : ((wnZ2 W q).sel [0, 1, 2, 3] M' v).T = wnT 1 q (wnXz W q v) := by kernel_rfl
end
def wnP (pc : List SV) (n : Nat) : List SV := (pc.drop 0).take (n * 19)
def wnVa (M : Nm) (q : W19) : V3 := wdV M (M.N.ta q.u) (wxF q.y)
def wnVb (M : Nm) (q : W19) : V3 := wdV M (M.N.tb q.u) (wxF q.y)
def wnNa (M : Nm) (q : W19) : V3 := inV M (wnVa M q) q.w
def wnNb (M : Nm) (q : W19) : V3 := inV M (wnVb M q) q.x
def cOb (C : Nce) (cs : List SV) (n : Nat) (v u : V3) : Obs := (decide (cs.length = n * 19), true) :: (C.o cs n, true) :: (C.b u.z v u cs n, true) :: (vcO u ++ vcO v)
def eOb (E : Nev) (cs : List SV) (n : Nat) (v u : V3) : Obs := (decide (cs.length = n * 19), true) :: (E.o cs n, true) :: (E.b v u cs n, true) :: (vcO u ++ vcO v)
def wnO0 (M : Nm) (q : W19) : Obs := inO M (wnVb M q) q.x (inO M (wnVa M q) q.w (wdO M (M.N.tb q.u) (wxF q.y) (wdO M (M.N.ta q.u) (wxF q.y) (so (wxD q.y) ++ [(rightB (FloatKind.f64.nearest q.y), true), (M.N.tw q.u, true)]))))
def wnO1 (W : Nwn) (cs : List SV) (n : Nat) (q : W19) (o : Obs) : Obs :=
  eOb W.E cs n (wnNa W.M q) (wnNb W.M q) ++ (eOb W.E cs n (wnVa W.M q) (wnVb W.M q) ++ (cOb W.C cs n (wnNa W.M q) (wnNb W.M q) ++ (cOb W.C cs n (wnVa W.M q) (wnVb W.M q) ++ o)))
def wnT1 (W : Nwn) (cs : List SV) (n : Nat) (q : W19) (c : Bool) : Obs := bif c then
    [(W.M.ii (W.C.g (wnNb W.M q).z (wnNa W.M q) (wnNb W.M q) cs n).m (W.C.g (wnVb W.M q).z (wnVa W.M q) (wnVb W.M q) cs n).m, true), (W.M.ii (W.C.g (wnNb W.M q).z (wnNa W.M q) (wnNb W.M q) cs n).p (W.C.g (wnVb W.M q).z (wnVa W.M q) (wnVb W.M q) cs n).p, true),
     (W.C.e (wnNb W.M q).z (wnNa W.M q) (wnNb W.M q) cs n != 0, false), (W.C.e (wnVb W.M q).z (wnVa W.M q) (wnVb W.M q) cs n == 0, true)]
  else [(W.C.e (wnVb W.M q).z (wnVa W.M q) (wnVb W.M q) cs n == 0, false)]
def wnT2 (W : Nwn) (cs : List SV) (n : Nat) (q : W19) (c : Bool) : Obs := bif c then
    [(W.E.e (wnNa W.M q) (wnNb W.M q) cs n != 0, false), (W.E.e (wnVa W.M q) (wnVb W.M q) cs n == 0, true)]
  else [(W.E.e (wnVa W.M q) (wnVb W.M q) cs n == 0, false)]
def wnK (W : Nwn) (cs : List SV) (n : Nat) (q : W19) (c : Bool) (k : Nat) : Obs := bif c then
    [(W.M.ii (W.E.g (wnNa W.M q) (wnNb W.M q) cs n k).m (W.E.g (wnVa W.M q) (wnVb W.M q) cs n k).m, true), (W.M.ii (W.E.g (wnNa W.M q) (wnNb W.M q) cs n k).p (W.E.g (wnVa W.M q) (wnVb W.M q) cs n k).p, true), (W.E.e (wnVa W.M q) (wnVb W.M q) cs n == 0, true)]
  else [(W.E.e (wnVa W.M q) (wnVb W.M q) cs n == 0, false)]
def wnO (W : Nwn) (cs : List SV) (n : Nat) (q : W19) (c1 c2 : Bool) : Obs :=
  wnK W cs n q c2 2 ++ (wnK W cs n q c2 1 ++ (wnK W cs n q c2 0 ++ (wnT2 W cs n q c2 ++ (wnT1 W cs n q c1 ++ wnO1 W cs n q (wnO0 W.M q)))))
def wnD (c1 c2 : Bool) : List Bool := (bif c1 then [true, false, true, true] else [false]) ++ (bif c2 then [true, false, true, true, true, true, true, true, true, true, true] else [false, false, false, false])
section
variable (W : Nwn) (pc : List SV) (n : Nat) (q : W19) (x : Nat → SV)
theorem wnL (c1 c2 : Bool) : Lands Tryz.prog EG (OWn W) 60 (post 2 wnC) (wnS pc n q x (some (wnD c1 c2))) .ret := by cases c1 <;> cases c2 <;> (unfold Lands; kernel_rfl)
theorem wnO_eq (c1 c2 : Bool) : (aft Tryz.prog EG (OWn W) 60 (post 2 wnC) (wnS pc n q x (some (wnD c1 c2)))).ob = wnO W (wnP pc n) n q c1 c2 := by cases c1 <;> cases c2 <;> kernel_rfl
theorem wnR (c1 c2 : Bool) : resultS Tryz.prog Tryz.f5 (aft Tryz.prog EG (OWn W) 60 (post 2 wnC) (wnS pc n q x (some (wnD c1 c2)))) = some (.b true) := by cases c1 <;> cases c2 <;> kernel_rfl
end
def wnC1 (W : Nwn) (cs : List SV) (n : Nat) (q : W19) : Bool := W.C.e (wnVb W.M q).z (wnVa W.M q) (wnVb W.M q) cs n == 0
def wnC2 (W : Nwn) (cs : List SV) (n : Nat) (q : W19) : Bool := W.E.e (wnVa W.M q) (wnVb W.M q) cs n == 0
theorem wn_run {W : Nwn} (hO : OracleOk Tryz.prog (OWn W)) {pc : List SV} {n : Nat} {q : W19} {x : Nat → SV} {B : Bs} {c1 c2 : Bool} (K : ObsOk (wnO W (wnP pc n) n q c1 c2)) :
    RunsB Tryz.prog B (post 2 wnC) (wnS pc n q x none) .ret (fun t => resultS Tryz.prog Tryz.f5 t = some (.b true)) := by
  have h0 := wnO_eq W pc n q x c1 c2
  exact RunsB.re (d := some (wnD c1 c2)) (o := []) (RunsP.bs (Lands.all goodG hO (wnL W pc n q x c1 c2) (h0 ▸ K) (wnR W pc n q x c1 c2)))
set_option maxRecDepth 20000 in
theorem wn_calls {W : Nwn} (hO : OracleOk Tryz.prog (OWn W)) {el : TypeId} {z : Nat × Nat} {cells : List SV} {off len cap : Nat} {q : W19} {m : Nms} {w : World} {vs : List Value} {c1 c2 : Bool} (hM : MemAt m w [⟨el, cells, .ro z⟩]) (hvs : dens m (.ssl 0 off len cap :: q.args) = some vs)
    (hc : len ≤ cap) (hb : W.b ((cells.drop off).take (len * 8)) len = true) (K : ObsOk (wnO W (wnP (W.g ((cells.drop off).take (len * 8)) len) (prK len + 1)) (prK len + 1) q c1 c2)) :
    Calls Tryz.prog 5 vs.toArray w fun e w' => e = .returned (.bool true) ∧ Below w.heap.size w w' := by
  refine RunsW.call (d := none) Tryz.func5 wnBody (x := .b true) rfl hvs hM ?_
  show RunsW Tryz.prog ⟨m, [⟨el, cells, .ro z⟩], w, hM⟩ wnC (wnA el z cells off len cap q) .ret _
  refine runW_ok goodG hO (wnLa W el z cells off len cap q) (by rw [wnOa]; exact ob_c (decide_eq_true hc) (ob_c hb ob_n)) ?_
  obtain ⟨rest, hr⟩ := wnRa W el z cells off len cap q
  refine RunsW.fresh (ids := [1, 2, 3, 4]) (fun b hb => by rw [List.mem_singleton] at hb; subst hb; rfl) hr rfl (wnMa W el z cells off len cap q) (fun j n hj => by
    have hl : j < 4 := (List.getElem?_eq_some_iff.1 hj).1
    rcases (by omega : j = 0 ∨ j = 1 ∨ j = 2 ∨ j = 3) with rfl | rfl | rfl | rfl <;> simp at hj <;> subst hj <;> simp) (fun b hb => by
      simp only [wnM, List.mem_cons, List.not_mem_nil, or_false] at hb
      rcases hb with rfl | rfl | rfl | rfl <;> rfl) fun B' v hB' => ?_
  have hs : SameSt (wnS (W.g ((cells.drop off).take (len * 8)) len) (prK len + 1) q (wnXa W el z cells off len cap q v) none) ((wnA2 W el z cells off len cap q).sel [1, 2, 3, 4] (wnM (W.g ((cells.drop off).take (len * 8)) len) q) v) := same_eq (wnTa W el z cells off len cap q v _).symm rfl
  exact RunsB.retell hs (wn_run hO (x := wnXa W el z cells off len cap q v) K)
set_option maxRecDepth 20000 in
theorem wn_nil {W : Nwn} (hO : OracleOk Tryz.prog (OWn W)) {q : W19} {w : World} {vs : List Value} {c1 c2 : Bool} (hvs : dens Nms.no (.o (.slice none 0 0) :: q.args) = some vs) (K : ObsOk (wnO W (wnP (W.g [] 0) 1) 1 q c1 c2)) :
    Calls Tryz.prog 5 vs.toArray w fun e w' => e = .returned (.bool true) ∧ Below w.heap.size w w' := by
  refine RunsW.call (d := none) Tryz.func5 wnBody (x := .b true) rfl hvs (MemAt.no w) ?_
  show RunsW Tryz.prog ⟨Nms.no, [], w, MemAt.no w⟩ wnC (wnZ q) .ret _
  refine runW_ok goodG hO (wnLz W q) (by rw [wnOz]; exact ob_n) ?_
  refine RunsW.fresh (rest := (wnZ2 W q).M) (ids := [0, 1, 2, 3]) (fun b hb => by cases hb) (List.nil_append _).symm rfl (wnMz W q) (fun j n hj => Nat.zero_le _) (fun b hb => by
      simp only [wnM, List.mem_cons, List.not_mem_nil, or_false] at hb
      rcases hb with rfl | rfl | rfl | rfl <;> rfl) fun B' v hB' => ?_
  have hs : SameSt (wnS (W.g [] 0) 1 q (wnXz W q v) none) ((wnZ2 W q).sel [0, 1, 2, 3] (wnM (W.g [] 0) q) v) := same_eq (wnTz W q v _).symm rfl
  exact RunsB.retell hs (wn_run hO (x := wnXz W q v) K)
end Go.Proofs.YthclipfgcgoofaaGreat
