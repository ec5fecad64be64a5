/- draw.Path: entry, end; the known function. draw.Draw by the reckoner: pieces. draw.Draw by the reckoner: the runs. draw.Draw: the known function. burnishlow.Prog as a known function: the whole. burnishlow.Prog as a known function: the contract. chances: the mirror's part does not hang on the leaves. What leaves send, plain: gloss. Oren's value, plain: a slope, then one line. Oren's slope, plain: in cases; parts; both ways. Layer 11's laws, by the reckoner. Leaves, plain: values and densities of directions of numbers. Chances of right programs, plain: no errors; boxes. -/
import Derived.Test.YtgjohjgmlleebaaGreatL13
import Derived.Test.YtgjohjgmlleebaaGreatL11
import Derived.Test.YtgjohjgmlleebaaGreatL12
namespace Go.Proofs.YtgjohjgmlleebaaGreat
set_option linter.all false
open Go.RowKit Bu Rx
section
variable (W : Npa) (e : TypeId) (cells : List SV) (off len cap : Nat) (c : I) (u : Int) (a er : Int) (s : I) (sure gl : Bool) (x : Nat → SV)
noncomputable abbrev pa0 : St := aft Tryz.prog EG (OPa W) 60 (seqL paC) (paE e cells off len cap c u (some [true, false, false]))
noncomputable abbrev pa4 : St := aftN Tryz.prog EG (OPa W) 60 4 paIn (pa0 W e cells off len cap c u)
theorem paL0 : Lands Tryz.prog EG (OPa W) 60 (seqL paC) (paE e cells off len cap c u (some [true, false, false])) .normal := by unfold Lands; kernel_rfl
theorem paOb0 : (pa0 W e cells off len cap c u).ob = [] := by kernel_rfl
theorem paL4 : LandsN Tryz.prog EG (OPa W) 60 4 paIn (pa0 W e cells off len cap c u) := by unfold LandsN; kernel_rfl
def paEO (W : Npa) (cells : List SV) (off len : Nat) (c : I) (u : Int) : Obs := [(W.u u, true), (decide (one64.k < c.hi.k), false), (decide (c.lo.k < z64.k), false), (rt c, true), (W.o ((cells.drop off).take (len * 19)) len, true)]
theorem paO4 : (pa4 W e cells off len cap c u).ob = paEO W cells off len c u := by kernel_rfl
def paM0 (e : TypeId) (cells : List SV) (c : I) (a : Int) (s : I) (q : I × Int) : List Blk := [⟨e, cells, .num⟩, ⟨29, [.fl c.lo, .fl c.hi], .ex⟩, ⟨108, [.si .i64 q.2], .ex⟩, ⟨114, [.p 2 0, .si .i64 a, .fl s.lo, .fl s.hi, .b true], .ex⟩, ⟨29, [.fl q.1.lo, .fl q.1.hi], .ex⟩]
theorem paM4 : selM (pa4 W e cells off len cap c u).M [0, 1, 2, 3, 4] = some (paM0 e cells c (IntKind.i64.wrap ((len : Int) - 1)) (W.uo u) (W.K.num 0 one64)) := by kernel_rfl
noncomputable def pa4X (v : Nat → Value) : Nat → SV := fun j => ((pa4 W e cells off len cap c u).sel [0, 1, 2, 3, 4] [] v).T.getD j .np
theorem paT4 (v : Nat → Value) (M' : List Blk) : ((pa4 W e cells off len cap c u).sel [0, 1, 2, 3, 4] M' v).T = paT off len cap (.b false) (pa4X W e cells off len cap c u v) := by kernel_rfl
theorem paLz : Lands Tryz.prog EG (OPa W) 60 paTl (paS e cells off len cap c a er s sure (.b gl) x (some [true])) .ret := by unfold Lands; kernel_rfl
theorem paOz : (aft Tryz.prog EG (OPa W) 60 paTl (paS e cells off len cap c a er s sure (.b gl) x (some [true]))).ob = [(er != 0, true)] := by kernel_rfl
theorem paRz : resultS Tryz.prog Tryz.f28 (aft Tryz.prog EG (OPa W) 60 paTl (paS e cells off len cap c a er s sure (.b gl) x (some [true]))) = some (.tup [.i .i64 0, .b false, .b false, .si .i64 er]) := by kernel_rfl
theorem paMz : (aft Tryz.prog EG (OPa W) 60 paTl (paS e cells off len cap c a er s sure (.b gl) x (some [true]))).M = paM e cells c a er s sure := by kernel_rfl
theorem paLy : Lands Tryz.prog EG (OPa W) 60 paTl (paS e cells off len cap c a er s sure (.b gl) x (some [false])) .ret := by unfold Lands; kernel_rfl
theorem paOy : (aft Tryz.prog EG (OPa W) 60 paTl (paS e cells off len cap c a er s sure (.b gl) x (some [false]))).ob = [(er != 0, false)] := by kernel_rfl
theorem paRy : resultS Tryz.prog Tryz.f28 (aft Tryz.prog EG (OPa W) 60 paTl (paS e cells off len cap c a er s sure (.b gl) x (some [false]))) = some (.tup [.si .i64 a, .b gl, .b sure, .i .i64 0]) := by kernel_rfl
theorem paMy : (aft Tryz.prog EG (OPa W) 60 paTl (paS e cells off len cap c a er s sure (.b gl) x (some [false]))).M = paM e cells c a er s sure := by kernel_rfl
end
/-- what Path tells -/
structure PaR where
  a : Int
  g : Bool
  s : Bool
  e : Int
def paRes (r : Pst × Bool) : PaR := bif decide (r.1.er = 0) then ⟨r.1.a, r.2, r.1.sure, 0⟩ else ⟨0, false, false, r.1.er⟩
def paW (W : Npa) (c : I) (u : Int) (cs : List SV) (len : Nat) : Pst × Bool := pathF W.K W.D c cs len ⟨len - 1, W.uo u, true, 0⟩
def paSv (r : Pst × Bool) : SV := bif decide (r.1.er = 0) then .tup [.si .i64 r.1.a, .b r.2, .b r.1.sure, .i .i64 0] else .tup [.i .i64 0, .b false, .b false, .si .i64 r.1.er]
def paV (r : PaR) : Value := .tuple #[.int .i64 r.a, .bool r.g, .bool r.s, .int .i64 r.e]
theorem paSv_plain (r : Pst × Bool) : plain (paSv r) = some (paV (paRes r)) := by
  unfold paSv paRes
  cases decide (r.1.er = 0) <;> rfl
section
variable {W : Npa} (hO : OracleOk Tryz.prog (OPa W)) (hnum : W.K.num 0 one64 = (pt one64, 0)) {e : TypeId} {cells cs : List SV} {c : I} {u : Int} {off len cap : Nat} {B : Bs} (hB1 : B.M.length = 1) (K : OkPg cs len) (hca : CellsAt cells off cs) (hB : paB W.D W.dO c cs len = true)
include hO hB1 K hca hB hnum
set_option maxRecDepth 20000 in
theorem pa_all (ho : ObsOk (paEO W cells off len c u)) : RunsB Tryz.prog B paC (paE e cells off len cap c u none) .ret
    (fun t => resultS Tryz.prog Tryz.f28 t = some (paSv (paW W c u cs len)) ∧ ∃ rest, t.M = ⟨e, cells, .num⟩ :: rest) := by
  have hlo := K.lo
  have hhi := K.hi
  have hw : IntKind.i64.wrap ((len : Int) - 1) = ((len - 1 : Nat) : Int) := by rw [IntKind.wrap_i64]; omega
  refine RunsB.re (d := some [true, false, false]) (o := []) ?_
  rw [paC_cut]
  refine LandsB.seq goodG hO (paL0 W e cells off len cap c u) (by have h0 := paOb0 W e cells off len cap c u; have K0 : ObsOk [] := ob_n; exact h0 ▸ K0) ?_
  refine RunsB.scope ?_
  refine (paL4 W e cells off len cap c u).ok goodG hO (by rw [paO4]; exact ho) ?_
  have hM := paM4 W e cells off len cap c u
  rw [hnum, hw] at hM
  refine RunsB.keep (ids := [0, 1, 2, 3, 4]) rfl hM (fun n hn => by
    rw [hB1] at hn
    have : n = 0 := by omega
    subst this; rfl) fun v => ?_
  have hs : SameSt (paP e cells off len cap c ⟨len - 1, W.uo u, true, 0⟩ false (pa4X W e cells off len cap c u v)) ((pa4 W e cells off len cap c u).sel [0, 1, 2, 3, 4] (paM0 e cells c ((len - 1 : Nat) : Int) (W.uo u) (pt one64, 0)) v) := same_eq (paT4 W e cells off len cap c u v _).symm rfl
  refine RunsB.retell hs ?_
  rw [paIn_cut]
  refine RunsB.seq (pa_loop hO hB1 K hca hB len ⟨len - 1, W.uo u, true, 0⟩ (pa4X W e cells off len cap c u v) (by show len - 1 < len; omega) (by show len - 1 < len; omega) rfl) fun t ⟨_, y, ht⟩ => ?_
  subst ht
  show RunsB Tryz.prog B paTl (paP e cells off len cap c (paW W c u cs len).1 (paW W c u cs len).2 y) .ret _
  generalize paW W c u cs len = r
  unfold paSv
  by_cases he : r.1.er = 0
  · rw [decide_eq_true he, cond_true]
    refine RunsB.re (d := some [false]) (o := []) (RunsP.bs (Lands.all goodG hO (paLy W e cells off len cap c r.1.a r.1.er r.1.s r.1.sure r.2 y) ?_ ⟨paRy W e cells off len cap c r.1.a r.1.er r.1.s r.1.sure r.2 y, ?_⟩))
    · have h0 := paOy W e cells off len cap c r.1.a r.1.er r.1.s r.1.sure r.2 y
      have K0 : ObsOk [(r.1.er != 0, false)] := ob_c (ne_0 he) ob_n
      exact h0 ▸ K0
    · exact ⟨_, paMy W e cells off len cap c r.1.a r.1.er r.1.s r.1.sure r.2 y⟩
  · rw [decide_eq_false he, cond_false]
    refine RunsB.re (d := some [true]) (o := []) (RunsP.bs (Lands.all goodG hO (paLz W e cells off len cap c r.1.a r.1.er r.1.s r.1.sure r.2 y) ?_ ⟨paRz W e cells off len cap c r.1.a r.1.er r.1.s r.1.sure r.2 y, ?_⟩))
    · have h0 := paOz W e cells off len cap c r.1.a r.1.er r.1.s r.1.sure r.2 y
      have K0 : ObsOk [(r.1.er != 0, true)] := ob_c (by simpa using he) ob_n
      exact h0 ▸ K0
    · exact ⟨_, paMz W e cells off len cap c r.1.a r.1.er r.1.s r.1.sure r.2 y⟩
end
/-- names -/
structure Npt where
  o : List SV → Nat → Bool
  b : I → List SV → Nat → Bool
  u : Int → Bool
  g : I → Int → List SV → Nat → PaR
def cosO (c : I) : Obs := [(decide (one64.k < c.hi.k), false), (decide (c.lo.k < z64.k), false), (rt c, true)]
def kPt_ (T : Npt) : RdF := fun cs len l ds => match l with
  | [.agg [.fl lo, .fl hi], y] => match intS y with
    | some (.u64, u) => (takeB ds (T.g ⟨lo, hi⟩ u cs len).g).map fun r => (.tup [.si .i64 (T.g ⟨lo, hi⟩ u cs len).a, .b r.1, .b (T.g ⟨lo, hi⟩ u cs len).s, .si .i64 (T.g ⟨lo, hi⟩ u cs len).e], r.2.1, ((decide (cs.length = len * 19), true) :: (T.o cs len, true) :: (T.b ⟨lo, hi⟩ cs len, true) :: (T.u u, true) :: cosO ⟨lo, hi⟩) ++ r.2.2)
    | _ => none
  | _ => none
def nPt (W : Npa) : Npt := ⟨okPg, paB W.D W.dO, W.u, fun c u cs len => paRes (paW W c u cs len)⟩
theorem ptRd {W : Npa} (hO : OracleOk Tryz.prog (OPa W)) (hnum : W.K.num 0 one64 = (pt one64, 0)) (hW : W.o = okPg) : RdOk Tryz.prog 28 (kPt_ (nPt W)) := by
  intro cs len l ds x ds' ob h ho
  unfold kPt_ at h
  split at h
  · rename_i lo hi y
    split at h
    · rename_i u hu
      simp only [Option.map_eq_some_iff, Prod.mk.injEq] at h
      obtain ⟨⟨r, dd, oo⟩, h1, rfl, rfl, rfl⟩ := h
      have hd := takeB_ok h1 ho.right
      subst hd
      have h2 := ho.left
      have hl : cs.length = len * 19 := of_decide_eq_true (h2 _ (List.mem_cons_self ..))
      have hok : okPg cs len = true := h2 _ (List.mem_cons_of_mem _ (List.mem_cons_self ..))
      have K := okPg_ok hok
      have hB : paB W.D W.dO ⟨lo, hi⟩ cs len = true := h2 _ (List.mem_cons_of_mem _ (List.mem_cons_of_mem _ (List.mem_cons_self ..)))
      have hU : W.u u = true := h2 _ (List.mem_cons_of_mem _ (List.mem_cons_of_mem _ (List.mem_cons_of_mem _ (List.mem_cons_self ..))))
      have hC : ObsOk (cosO ⟨lo, hi⟩) := fun p hp => h2 p (List.mem_cons_of_mem _ (List.mem_cons_of_mem _ (List.mem_cons_of_mem _ (List.mem_cons_of_mem _ hp))))
      obtain ⟨vc, hc⟩ := K.pl
      have hy := intS_plain hu
      refine ⟨vc, [.agg #[.float .f64 lo.b, .float .f64 hi.b], .int .u64 u], paV (paRes (paW W ⟨lo, hi⟩ u cs len)), hc, ?_, rfl, fun w q off cap hw => ?_⟩
      · show plains [.agg [.fl lo, .fl hi], y] = _
        unfold plains plains
        rw [hy]; rfl
      · refine rd_of_runsB (d := none) Tryz.func28 paBody hc (l := [.agg [.fl lo, .fl hi], .si .u64 u]) rfl (paSv_plain (paW W ⟨lo, hi⟩ u cs len)) (fun e cells off cap hca hid B hBM => ?_) w q off cap hw
        exact pa_all (c := ⟨lo, hi⟩) hO hnum (by rw [hBM]; rfl) K hca hB (ob_c hU (by
          have h3 : W.o ((cells.drop off).take (len * 19)) len = true := by rw [hW, ← hl, at_take hca]; exact hok
          intro p hp
          simp only [List.mem_cons, List.not_mem_nil, or_false] at hp
          rcases hp with rfl | rfl | rfl | rfl
          · exact hC _ (List.mem_cons_self ..)
          · exact hC _ (List.mem_cons_of_mem _ (List.mem_cons_self ..))
          · exact hC _ (List.mem_cons_of_mem _ (List.mem_cons_of_mem _ (List.mem_cons_self ..)))
          · exact h3))
    · cases h
  · cases h
end Go.Proofs.YtgjohjgmlleebaaGreat
namespace Go.Proofs.YtgjohjgmlleebaaGreat
set_option linter.all false
open Go.RowKit Bu Rx
/-- names -/
structure Ndr where
  K : Kk
  T : Npt
  un : F → F → F → V3
  ub : F → F → F → Bool
  cd : Int → Int → I × I × I
  vd : V3 → I → Int → Int → V3 × Int
  vo : V3 → I → Int → Int → Obs
  re : V3 → V3 → V3 × Int
  mp : F → F → F → F → F → F → Bool
  md : F → F → F → F → F → F → F × F × F
def ODw (N : Ndr) : OracleF := lookO (OCL N.K ++ [(31, kRd 19 (kRgt N.T.o)), (33, plainO (kUn N.un N.ub)), (28, kRd 19 (kPt_ N.T)), (116, plainO (kDraw N.cd N.T.u)), (117, plainO (kVd N.vd N.vo)), (118, plainO (kRe N.re)), (69, plainO (kSt N.ub)), (71, plainO (kMid N.mp N.md))])
end Go.Proofs.YtgjohjgmlleebaaGreat
namespace Go.Proofs.YtgjohjgmlleebaaGreat
set_option linter.all false
open Go.RowKit Bu Rx
section
variable (N : Ndr) (e : TypeId) (cells : List SV) (off len cap : Nat) (x y z : F) (u0 u1 u2 : Int)
def dwArgs (off len cap : Nat) (x y z : F) (u0 u1 u2 : Int) : List SV := [.ssl 0 off len cap, .agg [.fl x, .fl y, .fl z], .agg [.si .u64 u0, .si .u64 u1, .si .u64 u2]]
noncomputable abbrev dwRun (N : Ndr) (e : TypeId) (cells : List SV) (off len cap : Nat) (x y z : F) (u0 u1 u2 : Int) (d : List Bool) : Option (SV × List Blk × Dec × Obs) := ((run Tryz.prog EG (ODw N) 80).1 30 (dwArgs off len cap x y z u0 u1 u2) [⟨e, cells, .num⟩] (some d)).map (fun q => (q.1, q.2.1.take 1, q.2.2))
/-- what is drawn, as a row -/
def dwS (k : Int) (p : F × F × F) (b : V3) (a : SV) (s : Bool) (e : SV) : SV := .tup [.agg [.i .u8 k, .fl p.1, .fl p.2.1, .fl p.2.2, .fl b.x.lo, .fl b.x.hi, .fl b.y.lo, .fl b.y.hi, .fl b.z.lo, .fl b.z.hi, a, .b s], e]
def z3 : F × F × F := (toF 0, toF 0, toF 0)
def zV : V3 := ⟨⟨toF 0, toF 0⟩, ⟨toF 0, toF 0⟩, ⟨toF 0, toF 0⟩⟩
def dwP (N : Ndr) (cs : List SV) (len : Nat) (x y z : F) (u0 : Int) : PaR := N.T.g (N.un x y z).z u0 cs len
def dwNd (N : Ndr) (cells : List SV) (off len : Nat) (x y z : F) (u0 : Int) : Nd := ndR cells (off + (dwP N (cutC cells off len) len x y z u0).a.toNat * 19)
def dwMir (N : Ndr) (x y z : F) : V3 := ⟨(N.K.neg 0 (N.un x y z).x).1, (N.K.neg (N.K.neg 0 (N.un x y z).x).2 (N.un x y z).y).1, (N.un x y z).z⟩
def dwMid (N : Ndr) (b : V3) : F × F × F := N.md b.x.lo b.x.hi b.y.lo b.y.hi b.z.lo b.z.hi
def dwMp (N : Ndr) (b : V3) : Bool := N.mp b.x.lo b.x.hi b.y.lo b.y.hi b.z.lo b.z.hi
def dwCos (N : Ndr) (u1 u2 : Int) : V3 := ⟨(N.cd u1 u2).1, (N.cd u1 u2).2.1, (N.cd u1 u2).2.2⟩
def dwN (N : Ndr) (v : V3) (al : F) (u1 u2 : Int) : V3 × Int := N.vd v (pt al) u1 u2
def dwO0 (N : Ndr) (cs : List SV) (len : Nat) (x y z : F) (b : Bool) : Obs := [(N.ub x y z, b), (N.T.o cs len, true)]
def dwO1 (N : Ndr) (cs : List SV) (len : Nat) (x y z : F) : Obs := (decide (z.k ≤ z64.k), false) :: dwO0 N cs len x y z true
def dwPO (N : Ndr) (cs : List SV) (len : Nat) (x y z : F) (u0 : Int) (g : Bool) : Obs := ((decide (cs.length = len * 19), true) :: (N.T.o cs len, true) :: (N.T.b (N.un x y z).z cs len, true) :: (N.T.u u0, true) :: cosO (N.un x y z).z) ++ [((dwP N cs len x y z u0).g, g)]
def dwO2 (N : Ndr) (cs : List SV) (len : Nat) (x y z : F) (u0 : Int) (g b : Bool) : Obs := ((dwP N cs len x y z u0).e != 0, b) :: (dwPO N cs len x y z u0 g ++ dwO1 N cs len x y z)
def dwO3 (N : Ndr) (cells : List SV) (off len : Nat) (x y z : F) (u0 : Int) : Obs := (ckAll cells (off + (dwP N (cutC cells off len) len x y z u0).a.toNat * 19) ndCK, true) :: (ixB (dwP N (cutC cells off len) len x y z u0).a len, true) :: dwO2 N (cutC cells off len) len x y z u0 false false
def dwEnd (N : Ndr) (b : V3) (c d : Bool) (t : Obs) : Obs := (decide ((dwMid N b).2.2.k ≤ z64.k), d) :: (N.ub (dwMid N b).1 (dwMid N b).2.1 (dwMid N b).2.2, c) :: (dwMp N b, true) :: t
theorem dwR_a : dwRun N e cells off len cap x y z u0 u1 u2 [false] = some (dwS 0 z3 zV (.i .i64 0) false (.i .i64 50), [⟨e, cells, .num⟩], some [], dwO0 N (cutC cells off len) len x y z false) := by kernel_rfl
theorem dwR_b : dwRun N e cells off len cap x y z u0 u1 u2 [true, true] = some (dwS 0 z3 zV (.i .i64 0) false (.i .i64 0), [⟨e, cells, .num⟩], some [], (decide (z.k ≤ z64.k), true) :: dwO0 N (cutC cells off len) len x y z true) := by kernel_rfl
theorem dwR_c : dwRun N e cells off len cap x y z u0 u1 u2 [true, false, false, true] = some (dwS 0 z3 zV (.i .i64 0) false (.si .i64 (dwP N (cutC cells off len) len x y z u0).e), [⟨e, cells, .num⟩], some [], dwO2 N (cutC cells off len) len x y z u0 false true) := by kernel_rfl
theorem dwR_d : dwRun N e cells off len cap x y z u0 u1 u2 [true, false, true, false] = some (dwS 1 (x.neg, y.neg, z) (dwMir N x y z) (.si .i64 (dwP N (cutC cells off len) len x y z u0).a) (dwP N (cutC cells off len) len x y z u0).s (.i .i64 0), [⟨e, cells, .num⟩], some [], (N.ub x y z, true) :: dwO2 N (cutC cells off len) len x y z u0 true false) := by kernel_rfl
theorem dwR_v : dwRun N e cells off len cap x y z u0 u1 u2 [true, false, false, false, false, false, true, true, true] = some (dwS 0 z3 zV (.i .i64 0) false (.si .i64 (dwN N (N.un x y z) ((dwNd N cells off len x y z u0).f 13) u1 u2).2), [⟨e, cells, .num⟩], some [], ((dwN N (N.un x y z) ((dwNd N cells off len x y z u0).f 13) u1 u2).2 != 0, true) :: ((dwN N (N.un x y z) ((dwNd N cells off len x y z u0).f 13) u1 u2).2 != 0, true) :: (((N.vo (N.un x y z) (pt ((dwNd N cells off len x y z u0).f 13)) u1 u2 ++ [(decide (((dwNd N cells off len x y z u0).f 13).k ≤ one64.k), true)]) ++ [((dwNd N cells off len x y z u0).k == 2, false), ((dwNd N cells off len x y z u0).k == 1, false)]) ++ dwO3 N cells off len x y z u0)) := by kernel_rfl
theorem dwR_r : dwRun N e cells off len cap x y z u0 u1 u2 [true, false, false, false, false, false, true, false, true] = some (dwS 0 z3 zV (.i .i64 0) false (.si .i64 (N.re (N.un x y z) (dwN N (N.un x y z) ((dwNd N cells off len x y z u0).f 13) u1 u2).1).2), [⟨e, cells, .num⟩], some [], ((N.re (N.un x y z) (dwN N (N.un x y z) ((dwNd N cells off len x y z u0).f 13) u1 u2).1).2 != 0, true) :: (reO (N.un x y z) (dwN N (N.un x y z) ((dwNd N cells off len x y z u0).f 13) u1 u2).1 ++ (((dwN N (N.un x y z) ((dwNd N cells off len x y z u0).f 13) u1 u2).2 != 0, false) :: (((N.vo (N.un x y z) (pt ((dwNd N cells off len x y z u0).f 13)) u1 u2 ++ [(decide (((dwNd N cells off len x y z u0).f 13).k ≤ one64.k), true)]) ++ [((dwNd N cells off len x y z u0).k == 2, false), ((dwNd N cells off len x y z u0).k == 1, false)]) ++ dwO3 N cells off len x y z u0)))) := by kernel_rfl
theorem dwR_ett : dwRun N e cells off len cap x y z u0 u1 u2 [true, false, false, false, true, true, true, true] = some (dwS 0 z3 zV (.si .i64 (dwP N (cutC cells off len) len x y z u0).a) (dwP N (cutC cells off len) len x y z u0).s (.i .i64 0), [⟨e, cells, .num⟩], some [], dwEnd N (dwCos N u1 u2) true true ((N.T.u u1, true) :: (N.T.u u2, true) :: ((dwNd N cells off len x y z u0).k == 1, true) :: dwO3 N cells off len x y z u0)) := by kernel_rfl
theorem dwR_etf : dwRun N e cells off len cap x y z u0 u1 u2 [true, false, false, false, true, true, true, false] = some (dwS 2 (dwMid N (dwCos N u1 u2)) (dwCos N u1 u2) (.si .i64 (dwP N (cutC cells off len) len x y z u0).a) (dwP N (cutC cells off len) len x y z u0).s (.i .i64 0), [⟨e, cells, .num⟩], some [], dwEnd N (dwCos N u1 u2) true false ((N.T.u u1, true) :: (N.T.u u2, true) :: ((dwNd N cells off len x y z u0).k == 1, true) :: dwO3 N cells off len x y z u0)) := by kernel_rfl
theorem dwR_eft : dwRun N e cells off len cap x y z u0 u1 u2 [true, false, false, false, true, true, false, true] = some (dwS 0 z3 zV (.si .i64 (dwP N (cutC cells off len) len x y z u0).a) (dwP N (cutC cells off len) len x y z u0).s (.i .i64 0), [⟨e, cells, .num⟩], some [], dwEnd N (dwCos N u1 u2) false true ((N.T.u u1, true) :: (N.T.u u2, true) :: ((dwNd N cells off len x y z u0).k == 1, true) :: dwO3 N cells off len x y z u0)) := by kernel_rfl
theorem dwR_eff : dwRun N e cells off len cap x y z u0 u1 u2 [true, false, false, false, true, true, false, false] = some (dwS 0 z3 zV (.si .i64 (dwP N (cutC cells off len) len x y z u0).a) (dwP N (cutC cells off len) len x y z u0).s (.i .i64 0), [⟨e, cells, .num⟩], some [], dwEnd N (dwCos N u1 u2) false false ((N.T.u u1, true) :: (N.T.u u2, true) :: ((dwNd N cells off len x y z u0).k == 1, true) :: dwO3 N cells off len x y z u0)) := by kernel_rfl
theorem dwR_ftt : dwRun N e cells off len cap x y z u0 u1 u2 [true, false, false, false, false, true, true, true, true] = some (dwS 0 z3 zV (.si .i64 (dwP N (cutC cells off len) len x y z u0).a) (dwP N (cutC cells off len) len x y z u0).s (.i .i64 0), [⟨e, cells, .num⟩], some [], dwEnd N (dwCos N u1 u2) true true ((N.T.u u1, true) :: (N.T.u u2, true) :: ((dwNd N cells off len x y z u0).k == 2, true) :: ((dwNd N cells off len x y z u0).k == 1, false) :: dwO3 N cells off len x y z u0)) := by kernel_rfl
theorem dwR_ftf : dwRun N e cells off len cap x y z u0 u1 u2 [true, false, false, false, false, true, true, true, false] = some (dwS 2 (dwMid N (dwCos N u1 u2)) (dwCos N u1 u2) (.si .i64 (dwP N (cutC cells off len) len x y z u0).a) (dwP N (cutC cells off len) len x y z u0).s (.i .i64 0), [⟨e, cells, .num⟩], some [], dwEnd N (dwCos N u1 u2) true false ((N.T.u u1, true) :: (N.T.u u2, true) :: ((dwNd N cells off len x y z u0).k == 2, true) :: ((dwNd N cells off len x y z u0).k == 1, false) :: dwO3 N cells off len x y z u0)) := by kernel_rfl
theorem dwR_fft : dwRun N e cells off len cap x y z u0 u1 u2 [true, false, false, false, false, true, true, false, true] = some (dwS 0 z3 zV (.si .i64 (dwP N (cutC cells off len) len x y z u0).a) (dwP N (cutC cells off len) len x y z u0).s (.i .i64 0), [⟨e, cells, .num⟩], some [], dwEnd N (dwCos N u1 u2) false true ((N.T.u u1, true) :: (N.T.u u2, true) :: ((dwNd N cells off len x y z u0).k == 2, true) :: ((dwNd N cells off len x y z u0).k == 1, false) :: dwO3 N cells off len x y z u0)) := by kernel_rfl
theorem dwR_fff : dwRun N e cells off len cap x y z u0 u1 u2 [true, false, false, false, false, true, true, false, false] = some (dwS 0 z3 zV (.si .i64 (dwP N (cutC cells off len) len x y z u0).a) (dwP N (cutC cells off len) len x y z u0).s (.i .i64 0), [⟨e, cells, .num⟩], some [], dwEnd N (dwCos N u1 u2) false false ((N.T.u u1, true) :: (N.T.u u2, true) :: ((dwNd N cells off len x y z u0).k == 2, true) :: ((dwNd N cells off len x y z u0).k == 1, false) :: dwO3 N cells off len x y z u0)) := by kernel_rfl
theorem dwR_gtt : dwRun N e cells off len cap x y z u0 u1 u2 [true, false, false, false, false, false, true, false, false, true, true, true] = some (dwS 0 z3 zV (.si .i64 (dwP N (cutC cells off len) len x y z u0).a) (dwP N (cutC cells off len) len x y z u0).s (.i .i64 0), [⟨e, cells, .num⟩], some [], dwEnd N (N.re (N.un x y z) (dwN N (N.un x y z) ((dwNd N cells off len x y z u0).f 13) u1 u2).1).1 true true (((N.re (N.un x y z) (dwN N (N.un x y z) ((dwNd N cells off len x y z u0).f 13) u1 u2).1).2 != 0, false) :: (reO (N.un x y z) (dwN N (N.un x y z) ((dwNd N cells off len x y z u0).f 13) u1 u2).1 ++ (((dwN N (N.un x y z) ((dwNd N cells off len x y z u0).f 13) u1 u2).2 != 0, false) :: (((N.vo (N.un x y z) (pt ((dwNd N cells off len x y z u0).f 13)) u1 u2 ++ [(decide (((dwNd N cells off len x y z u0).f 13).k ≤ one64.k), true)]) ++ [((dwNd N cells off len x y z u0).k == 2, false), ((dwNd N cells off len x y z u0).k == 1, false)]) ++ dwO3 N cells off len x y z u0))))) := by kernel_rfl
theorem dwR_gtf : dwRun N e cells off len cap x y z u0 u1 u2 [true, false, false, false, false, false, true, false, false, true, true, false] = some (dwS 2 (dwMid N (N.re (N.un x y z) (dwN N (N.un x y z) ((dwNd N cells off len x y z u0).f 13) u1 u2).1).1) (N.re (N.un x y z) (dwN N (N.un x y z) ((dwNd N cells off len x y z u0).f 13) u1 u2).1).1 (.si .i64 (dwP N (cutC cells off len) len x y z u0).a) (dwP N (cutC cells off len) len x y z u0).s (.i .i64 0), [⟨e, cells, .num⟩], some [], dwEnd N (N.re (N.un x y z) (dwN N (N.un x y z) ((dwNd N cells off len x y z u0).f 13) u1 u2).1).1 true false (((N.re (N.un x y z) (dwN N (N.un x y z) ((dwNd N cells off len x y z u0).f 13) u1 u2).1).2 != 0, false) :: (reO (N.un x y z) (dwN N (N.un x y z) ((dwNd N cells off len x y z u0).f 13) u1 u2).1 ++ (((dwN N (N.un x y z) ((dwNd N cells off len x y z u0).f 13) u1 u2).2 != 0, false) :: (((N.vo (N.un x y z) (pt ((dwNd N cells off len x y z u0).f 13)) u1 u2 ++ [(decide (((dwNd N cells off len x y z u0).f 13).k ≤ one64.k), true)]) ++ [((dwNd N cells off len x y z u0).k == 2, false), ((dwNd N cells off len x y z u0).k == 1, false)]) ++ dwO3 N cells off len x y z u0))))) := by kernel_rfl
theorem dwR_gft : dwRun N e cells off len cap x y z u0 u1 u2 [true, false, false, false, false, false, true, false, false, true, false, true] = some (dwS 0 z3 zV (.si .i64 (dwP N (cutC cells off len) len x y z u0).a) (dwP N (cutC cells off len) len x y z u0).s (.i .i64 0), [⟨e, cells, .num⟩], some [], dwEnd N (N.re (N.un x y z) (dwN N (N.un x y z) ((dwNd N cells off len x y z u0).f 13) u1 u2).1).1 false true (((N.re (N.un x y z) (dwN N (N.un x y z) ((dwNd N cells off len x y z u0).f 13) u1 u2).1).2 != 0, false) :: (reO (N.un x y z) (dwN N (N.un x y z) ((dwNd N cells off len x y z u0).f 13) u1 u2).1 ++ (((dwN N (N.un x y z) ((dwNd N cells off len x y z u0).f 13) u1 u2).2 != 0, false) :: (((N.vo (N.un x y z) (pt ((dwNd N cells off len x y z u0).f 13)) u1 u2 ++ [(decide (((dwNd N cells off len x y z u0).f 13).k ≤ one64.k), true)]) ++ [((dwNd N cells off len x y z u0).k == 2, false), ((dwNd N cells off len x y z u0).k == 1, false)]) ++ dwO3 N cells off len x y z u0))))) := by kernel_rfl
theorem dwR_gff : dwRun N e cells off len cap x y z u0 u1 u2 [true, false, false, false, false, false, true, false, false, true, false, false] = some (dwS 0 z3 zV (.si .i64 (dwP N (cutC cells off len) len x y z u0).a) (dwP N (cutC cells off len) len x y z u0).s (.i .i64 0), [⟨e, cells, .num⟩], some [], dwEnd N (N.re (N.un x y z) (dwN N (N.un x y z) ((dwNd N cells off len x y z u0).f 13) u1 u2).1).1 false false (((N.re (N.un x y z) (dwN N (N.un x y z) ((dwNd N cells off len x y z u0).f 13) u1 u2).1).2 != 0, false) :: (reO (N.un x y z) (dwN N (N.un x y z) ((dwNd N cells off len x y z u0).f 13) u1 u2).1 ++ (((dwN N (N.un x y z) ((dwNd N cells off len x y z u0).f 13) u1 u2).2 != 0, false) :: (((N.vo (N.un x y z) (pt ((dwNd N cells off len x y z u0).f 13)) u1 u2 ++ [(decide (((dwNd N cells off len x y z u0).f 13).k ≤ one64.k), true)]) ++ [((dwNd N cells off len x y z u0).k == 2, false), ((dwNd N cells off len x y z u0).k == 1, false)]) ++ dwO3 N cells off len x y z u0))))) := by kernel_rfl
end
end Go.Proofs.YtgjohjgmlleebaaGreat
namespace Go.Proofs.YtgjohjgmlleebaaGreat
set_option linter.all false
open Go.RowKit Bu Rx
structure DwR where
  k : Int
  p : F × F × F
  b : V3
  a : Int
  s : Bool
  e : Int
def dwZ (e : Int) : DwR := ⟨0, z3, zV, 0, false, e⟩
def dwSv (r : DwR) : SV := .tup [.agg [.si .u8 r.k, .fl r.p.1, .fl r.p.2.1, .fl r.p.2.2, .fl r.b.x.lo, .fl r.b.x.hi, .fl r.b.y.lo, .fl r.b.y.hi, .fl r.b.z.lo, .fl r.b.z.hi, .si .i64 r.a, .b r.s], .si .i64 r.e]
def dwV (r : DwR) : Value := .tuple #[.agg #[.int .u8 r.k, .float .f64 r.p.1.b, .float .f64 r.p.2.1.b, .float .f64 r.p.2.2.b, .float .f64 r.b.x.lo.b, .float .f64 r.b.x.hi.b, .float .f64 r.b.y.lo.b, .float .f64 r.b.y.hi.b, .float .f64 r.b.z.lo.b, .float .f64 r.b.z.hi.b, .int .i64 r.a, .bool r.s], .int .i64 r.e]
def bxF (N : Ndr) (nd : Nd) (v : V3) (u1 u2 : Int) : V3 × Int :=
  bif decide (nd.k = 1) || decide (nd.k = 2) then (dwCos N u1 u2, 0) else bif decide ((dwN N v (nd.f 13) u1 u2).2 = 0) then N.re v (dwN N v (nd.f 13) u1 u2).1 else (V3.zero, (dwN N v (nd.f 13) u1 u2).2)
def bxO (N : Ndr) (nd : Nd) (v : V3) (u1 u2 : Int) : Obs :=
  bif decide (nd.k = 1) || decide (nd.k = 2) then [(N.T.u u1, true), (N.T.u u2, true)] else (N.vo v (pt (nd.f 13)) u1 u2 ++ [(decide ((nd.f 13).k ≤ one64.k), true)]) ++ (bif decide ((dwN N v (nd.f 13) u1 u2).2 = 0) then reO v (dwN N v (nd.f 13) u1 u2).1 else [])
def dwLf (N : Ndr) (P : PaR) (b : V3) : DwR := bif N.ub (dwMid N b).1 (dwMid N b).2.1 (dwMid N b).2.2 && !decide ((dwMid N b).2.2.k ≤ z64.k) then ⟨2, dwMid N b, b, P.a, P.s, 0⟩ else ⟨0, z3, zV, P.a, P.s, 0⟩
def dwF (N : Ndr) (cs : List SV) (len : Nat) (x y z : F) (u0 u1 u2 : Int) : DwR :=
  bif N.ub x y z then
    bif decide (z.k ≤ z64.k) then dwZ 0
    else bif decide ((dwP N cs len x y z u0).e = 0) then
      bif (dwP N cs len x y z u0).g then ⟨1, (x.neg, y.neg, z), dwMir N x y z, (dwP N cs len x y z u0).a, (dwP N cs len x y z u0).s, 0⟩
      else bif decide ((bxF N (ndR cs ((dwP N cs len x y z u0).a.toNat * 19)) (N.un x y z) u1 u2).2 = 0) then dwLf N (dwP N cs len x y z u0) (bxF N (ndR cs ((dwP N cs len x y z u0).a.toNat * 19)) (N.un x y z) u1 u2).1 else dwZ (bxF N (ndR cs ((dwP N cs len x y z u0).a.toNat * 19)) (N.un x y z) u1 u2).2
    else dwZ (dwP N cs len x y z u0).e
  else dwZ 50
def dwOb (N : Ndr) (cs : List SV) (len : Nat) (x y z : F) (u0 u1 u2 : Int) : Obs :=
  (decide (cs.length = len * 19), true) :: (N.T.o cs len, true) ::
  (bif N.ub x y z then
    bif decide (z.k ≤ z64.k) then []
    else (N.T.b (N.un x y z).z cs len, true) :: (N.T.u u0, true) :: (cosO (N.un x y z).z ++
      (bif decide ((dwP N cs len x y z u0).e = 0) then
        bif (dwP N cs len x y z u0).g then []
        else (decide (0 ≤ (dwP N cs len x y z u0).a ∧ (dwP N cs len x y z u0).a < len), true) :: (bxO N (ndR cs ((dwP N cs len x y z u0).a.toNat * 19)) (N.un x y z) u1 u2 ++
          (bif decide ((bxF N (ndR cs ((dwP N cs len x y z u0).a.toNat * 19)) (N.un x y z) u1 u2).2 = 0) then [(dwMp N (bxF N (ndR cs ((dwP N cs len x y z u0).a.toNat * 19)) (N.un x y z) u1 u2).1, true)] else []))
      else [((dwP N cs len x y z u0).g, false)]))
  else [])
theorem ob_hd {c b : Bool} {o : Obs} (h : ObsOk ((c, b) :: o)) : c = b ∧ ObsOk o := ⟨h _ (List.mem_cons_self ..), fun p hp => h p (List.mem_cons_of_mem _ hp)⟩
section
variable {N : Ndr} (hO : OracleOk Tryz.prog (ODw N)) (hD : N.T.o = okPg) {cs : List SV} {len : Nat} {x y z : F} {u0 u1 u2 : Int}
include hO hD
set_option maxRecDepth 20000 in
theorem dw_all (h : ObsOk (dwOb N cs len x y z u0 u1 u2)) : ∃ vc, plains cs = some vc ∧ ∀ (w : World) (q off cap : Nat), RowAt w q off vc → Calls Tryz.prog 30 (Value.slice (some ⟨q, off, none⟩) len cap :: [.agg #[.float .f64 x.b, .float .f64 y.b, .float .f64 z.b], .agg #[.int .u64 u0, .int .u64 u1, .int .u64 u2]]).toArray w fun e w' => e = .returned (dwV (dwF N cs len x y z u0 u1 u2)) ∧ Below w.heap.size w w' := by
  unfold dwOb at h
  obtain ⟨h1, h⟩ := ob_hd h
  obtain ⟨h2, h⟩ := ob_hd h
  have hl : cs.length = len * 19 := of_decide_eq_true h1
  have K := okPg_ok (hD ▸ h2)
  obtain ⟨vc, hc⟩ := K.pl
  refine ⟨vc, hc, fun w q off cap hw => ?_⟩
  have fin : ∀ {d : List Bool} {res : SV} (hx : plain res = some (dwV (dwF N cs len x y z u0 u1 u2))) (hr : ∀ (e : TypeId) (cells : List SV) (off cap : Nat), CellsAt cells off cs → ∃ ob, dwRun N e cells off len cap x y z u0 u1 u2 d = some (res, [⟨e, cells, .num⟩], some [], ob) ∧ ObsOk ob), Calls Tryz.prog 30 (Value.slice (some ⟨q, off, none⟩) len cap :: [.agg #[.float .f64 x.b, .float .f64 y.b, .float .f64 z.b], .agg #[.int .u64 u0, .int .u64 u1, .int .u64 u2]]).toArray w fun e w' => e = .returned (dwV (dwF N cs len x y z u0 u1 u2)) ∧ Below w.heap.size w w' := by
    intro d res hx hr
    refine rd_of_runT goodG hO 80 (l := [.agg [.fl x, .fl y, .fl z], .agg [.si .u64 u0, .si .u64 u1, .si .u64 u2]]) hc rfl hx (fun e cells off cap hca => ?_) w q off cap hw
    obtain ⟨ob, h3, h4⟩ := hr e cells off cap hca
    exact ⟨_, _, ob, h3, h4⟩
  generalize hR : dwF N cs len x y z u0 u1 u2 = R at fin ⊢
  unfold dwF at hR
  cases g0 : N.ub x y z
  · rw [g0, cond_false] at hR; subst hR
    exact fin (res := dwS 0 z3 zV (.i .i64 0) false (.i .i64 50)) rfl fun e cells off cap hca => ⟨_, by have hr := dwR_a N e cells off len cap x y z u0 u1 u2; rw [cut_at hca hl] at hr; exact hr, ob_c g0 (ob_c h2 ob_n)⟩
  rw [g0, cond_true] at hR h
  by_cases gz : z.k ≤ z64.k
  · rw [decide_eq_true gz, cond_true] at hR; subst hR
    exact fin (res := dwS 0 z3 zV (.i .i64 0) false (.i .i64 0)) rfl fun e cells off cap hca => ⟨_, by have hr := dwR_b N e cells off len cap x y z u0 u1 u2; rw [cut_at hca hl] at hr; exact hr, ob_c (decide_eq_true gz) (ob_c g0 (ob_c h2 ob_n))⟩
  rw [decide_eq_false gz, cond_false] at hR h
  obtain ⟨h3, h⟩ := ob_hd h
  obtain ⟨h4, h⟩ := ob_hd h
  have h5 := h.left
  have h6 := h.right
  have o1 : ObsOk (dwO1 N cs len x y z) := ob_c (decide_eq_false gz) (ob_c g0 (ob_c h2 ob_n))
  have oP : ∀ {g : Bool}, (dwP N cs len x y z u0).g = g → ObsOk (dwPO N cs len x y z u0 g) := fun hg => ob_a (ob_c (decide_eq_true hl) (ob_c h2 (ob_c h3 (ob_c h4 h5)))) (ob_c hg ob_n)
  clear h
  by_cases ge : (dwP N cs len x y z u0).e = 0
  · rw [decide_eq_true ge, cond_true] at hR h6
    cases gg : (dwP N cs len x y z u0).g
    · rw [gg, cond_false] at hR h6
      have o2 : ObsOk (dwO2 N cs len x y z u0 false false) := ob_c (ne_0 ge) (ob_a (oP gg) o1)
      obtain ⟨h7, h8⟩ := ob_hd h6
      have h7 := of_decide_eq_true h7
      have h9 := h8.left
      have h10 := h8.right
      clear h8 h6
      have o3 : ∀ {cells : List SV} {off : Nat}, CellsAt cells off cs → ObsOk (dwO3 N cells off len x y z u0) := fun {cells off} hca => by
        unfold dwO3
        rw [cut_at hca hl]
        obtain ⟨hck, _⟩ := K.at hca (show (dwP N cs len x y z u0).a.toNat < len by omega)
        exact ob_c hck (ob_c (ix_of h7.1 h7.2) o2)
      have hnd : ∀ {cells : List SV} {off : Nat}, CellsAt cells off cs → dwNd N cells off len x y z u0 = ndR cs ((dwP N cs len x y z u0).a.toNat * 19) := fun {cells off} hca => by
        unfold dwNd
        rw [cut_at hca hl]
        exact (K.at hca (show (dwP N cs len x y z u0).a.toNat < len by omega)).2
      generalize ndR cs ((dwP N cs len x y z u0).a.toNat * 19) = nd at hR h9 h10 hnd
      by_cases k1 : nd.k = 1
      · have eb : bxF N nd (N.un x y z) u1 u2 = (dwCos N u1 u2, 0) := by unfold bxF; rw [decide_eq_true k1, Bool.true_or, cond_true]
        have oo : ObsOk [(N.T.u u1, true), (N.T.u u2, true)] := by unfold bxO at h9; rwa [decide_eq_true k1, Bool.true_or, cond_true] at h9
        rw [eb] at hR h10
        obtain ⟨u1k, oo⟩ := ob_hd oo
        obtain ⟨u2k, _⟩ := ob_hd oo
        rw [decide_eq_true rfl, cond_true] at hR h10
        obtain ⟨mp, _⟩ := ob_hd h10
        unfold dwLf at hR
        by_cases gw : (dwMid N (dwCos N u1 u2)).2.2.k ≤ z64.k
        · cases gu : N.ub (dwMid N (dwCos N u1 u2)).1 (dwMid N (dwCos N u1 u2)).2.1 (dwMid N (dwCos N u1 u2)).2.2
          · rw [gu, decide_eq_true gw] at hR
            simp only [Bool.not_true, Bool.not_false, Bool.and_true, Bool.and_false, Bool.true_and, Bool.false_and, cond_true, cond_false] at hR
            subst hR
            exact fin (res := dwS 0 z3 zV (.si .i64 (dwP N cs len x y z u0).a) (dwP N cs len x y z u0).s (.i .i64 0)) rfl fun e cells off cap hca => ⟨_, by have hr := dwR_eft N e cells off len cap x y z u0 u1 u2; rw [hnd hca, cut_at hca hl] at hr; exact hr, ob_c (decide_eq_true gw) (ob_c gu (ob_c mp (ob_c u1k (ob_c u2k (ob_c (beq_t k1) (o3 hca))))))⟩
          · rw [gu, decide_eq_true gw] at hR
            simp only [Bool.not_true, Bool.not_false, Bool.and_true, Bool.and_false, Bool.true_and, Bool.false_and, cond_true, cond_false] at hR
            subst hR
            exact fin (res := dwS 0 z3 zV (.si .i64 (dwP N cs len x y z u0).a) (dwP N cs len x y z u0).s (.i .i64 0)) rfl fun e cells off cap hca => ⟨_, by have hr := dwR_ett N e cells off len cap x y z u0 u1 u2; rw [hnd hca, cut_at hca hl] at hr; exact hr, ob_c (decide_eq_true gw) (ob_c gu (ob_c mp (ob_c u1k (ob_c u2k (ob_c (beq_t k1) (o3 hca))))))⟩
        · cases gu : N.ub (dwMid N (dwCos N u1 u2)).1 (dwMid N (dwCos N u1 u2)).2.1 (dwMid N (dwCos N u1 u2)).2.2
          · rw [gu, decide_eq_false gw] at hR
            simp only [Bool.not_true, Bool.not_false, Bool.and_true, Bool.and_false, Bool.true_and, Bool.false_and, cond_true, cond_false] at hR
            subst hR
            exact fin (res := dwS 0 z3 zV (.si .i64 (dwP N cs len x y z u0).a) (dwP N cs len x y z u0).s (.i .i64 0)) rfl fun e cells off cap hca => ⟨_, by have hr := dwR_eff N e cells off len cap x y z u0 u1 u2; rw [hnd hca, cut_at hca hl] at hr; exact hr, ob_c (decide_eq_false gw) (ob_c gu (ob_c mp (ob_c u1k (ob_c u2k (ob_c (beq_t k1) (o3 hca))))))⟩
          · rw [gu, decide_eq_false gw] at hR
            simp only [Bool.not_true, Bool.not_false, Bool.and_true, Bool.and_false, Bool.true_and, Bool.false_and, cond_true, cond_false] at hR
            subst hR
            exact fin (res := dwS 2 (dwMid N (dwCos N u1 u2)) (dwCos N u1 u2) (.si .i64 (dwP N cs len x y z u0).a) (dwP N cs len x y z u0).s (.i .i64 0)) rfl fun e cells off cap hca => ⟨_, by have hr := dwR_etf N e cells off len cap x y z u0 u1 u2; rw [hnd hca, cut_at hca hl] at hr; exact hr, ob_c (decide_eq_false gw) (ob_c gu (ob_c mp (ob_c u1k (ob_c u2k (ob_c (beq_t k1) (o3 hca))))))⟩
      · by_cases k2 : nd.k = 2
        · have eb : bxF N nd (N.un x y z) u1 u2 = (dwCos N u1 u2, 0) := by unfold bxF; rw [decide_eq_true k2, Bool.or_true, cond_true]
          have oo : ObsOk [(N.T.u u1, true), (N.T.u u2, true)] := by unfold bxO at h9; rwa [decide_eq_true k2, Bool.or_true, cond_true] at h9
          rw [eb] at hR h10
          obtain ⟨u1k, oo⟩ := ob_hd oo
          obtain ⟨u2k, _⟩ := ob_hd oo
          rw [decide_eq_true rfl, cond_true] at hR h10
          obtain ⟨mp, _⟩ := ob_hd h10
          unfold dwLf at hR
          by_cases gw : (dwMid N (dwCos N u1 u2)).2.2.k ≤ z64.k
          · cases gu : N.ub (dwMid N (dwCos N u1 u2)).1 (dwMid N (dwCos N u1 u2)).2.1 (dwMid N (dwCos N u1 u2)).2.2
            · rw [gu, decide_eq_true gw] at hR
              simp only [Bool.not_true, Bool.not_false, Bool.and_true, Bool.and_false, Bool.true_and, Bool.false_and, cond_true, cond_false] at hR
              subst hR
              exact fin (res := dwS 0 z3 zV (.si .i64 (dwP N cs len x y z u0).a) (dwP N cs len x y z u0).s (.i .i64 0)) rfl fun e cells off cap hca => ⟨_, by have hr := dwR_fft N e cells off len cap x y z u0 u1 u2; rw [hnd hca, cut_at hca hl] at hr; exact hr, ob_c (decide_eq_true gw) (ob_c gu (ob_c mp (ob_c u1k (ob_c u2k (ob_c (beq_t k2) (ob_c (beq_f k1) (o3 hca)))))))⟩
            · rw [gu, decide_eq_true gw] at hR
              simp only [Bool.not_true, Bool.not_false, Bool.and_true, Bool.and_false, Bool.true_and, Bool.false_and, cond_true, cond_false] at hR
              subst hR
              exact fin (res := dwS 0 z3 zV (.si .i64 (dwP N cs len x y z u0).a) (dwP N cs len x y z u0).s (.i .i64 0)) rfl fun e cells off cap hca => ⟨_, by have hr := dwR_ftt N e cells off len cap x y z u0 u1 u2; rw [hnd hca, cut_at hca hl] at hr; exact hr, ob_c (decide_eq_true gw) (ob_c gu (ob_c mp (ob_c u1k (ob_c u2k (ob_c (beq_t k2) (ob_c (beq_f k1) (o3 hca)))))))⟩
          · cases gu : N.ub (dwMid N (dwCos N u1 u2)).1 (dwMid N (dwCos N u1 u2)).2.1 (dwMid N (dwCos N u1 u2)).2.2
            · rw [gu, decide_eq_false gw] at hR
              simp only [Bool.not_true, Bool.not_false, Bool.and_true, Bool.and_false, Bool.true_and, Bool.false_and, cond_true, cond_false] at hR
              subst hR
              exact fin (res := dwS 0 z3 zV (.si .i64 (dwP N cs len x y z u0).a) (dwP N cs len x y z u0).s (.i .i64 0)) rfl fun e cells off cap hca => ⟨_, by have hr := dwR_fff N e cells off len cap x y z u0 u1 u2; rw [hnd hca, cut_at hca hl] at hr; exact hr, ob_c (decide_eq_false gw) (ob_c gu (ob_c mp (ob_c u1k (ob_c u2k (ob_c (beq_t k2) (ob_c (beq_f k1) (o3 hca)))))))⟩
            · rw [gu, decide_eq_false gw] at hR
              simp only [Bool.not_true, Bool.not_false, Bool.and_true, Bool.and_false, Bool.true_and, Bool.false_and, cond_true, cond_false] at hR
              subst hR
              exact fin (res := dwS 2 (dwMid N (dwCos N u1 u2)) (dwCos N u1 u2) (.si .i64 (dwP N cs len x y z u0).a) (dwP N cs len x y z u0).s (.i .i64 0)) rfl fun e cells off cap hca => ⟨_, by have hr := dwR_ftf N e cells off len cap x y z u0 u1 u2; rw [hnd hca, cut_at hca hl] at hr; exact hr, ob_c (decide_eq_false gw) (ob_c gu (ob_c mp (ob_c u1k (ob_c u2k (ob_c (beq_t k2) (ob_c (beq_f k1) (o3 hca)))))))⟩
        · have ek : (decide (nd.k = 1) || decide (nd.k = 2)) = false := by rw [decide_eq_false k1, decide_eq_false k2]; rfl
          unfold bxO at h9
          rw [ek, cond_false] at h9
          have oV : ∀ {cells : List SV} {off : Nat}, CellsAt cells off cs → ObsOk (((N.vo (N.un x y z) (pt (nd.f 13)) u1 u2 ++ [(decide ((nd.f 13).k ≤ one64.k), true)]) ++ [(nd.k == 2, false), (nd.k == 1, false)]) ++ dwO3 N cells off len x y z u0) := fun {cells off} hca => ob_a (ob_a h9.left (ob_c (beq_f k2) (ob_c (beq_f k1) ob_n))) (o3 hca)
          have h11 := h9.right
          by_cases gn : (dwN N (N.un x y z) (nd.f 13) u1 u2).2 = 0
          · rw [decide_eq_true gn, cond_true] at h11
            have eb : bxF N nd (N.un x y z) u1 u2 = N.re (N.un x y z) (dwN N (N.un x y z) (nd.f 13) u1 u2).1 := by unfold bxF; rw [ek, cond_false, decide_eq_true gn, cond_true]
            rw [eb] at hR h10
            by_cases gr : (N.re (N.un x y z) (dwN N (N.un x y z) (nd.f 13) u1 u2).1).2 = 0
            · rw [decide_eq_true gr, cond_true] at hR h10
              obtain ⟨mp, _⟩ := ob_hd h10
              unfold dwLf at hR
              by_cases gw : (dwMid N (N.re (N.un x y z) (dwN N (N.un x y z) (nd.f 13) u1 u2).1).1).2.2.k ≤ z64.k
              · cases gu : N.ub (dwMid N (N.re (N.un x y z) (dwN N (N.un x y z) (nd.f 13) u1 u2).1).1).1 (dwMid N (N.re (N.un x y z) (dwN N (N.un x y z) (nd.f 13) u1 u2).1).1).2.1 (dwMid N (N.re (N.un x y z) (dwN N (N.un x y z) (nd.f 13) u1 u2).1).1).2.2
                · rw [gu, decide_eq_true gw] at hR
                  simp only [Bool.not_true, Bool.not_false, Bool.and_true, Bool.and_false, Bool.true_and, Bool.false_and, cond_true, cond_false] at hR
                  subst hR
                  exact fin (res := dwS 0 z3 zV (.si .i64 (dwP N cs len x y z u0).a) (dwP N cs len x y z u0).s (.i .i64 0)) rfl fun e cells off cap hca => ⟨_, by have hr := dwR_gft N e cells off len cap x y z u0 u1 u2; rw [hnd hca, cut_at hca hl] at hr; exact hr, ob_c (decide_eq_true gw) (ob_c gu (ob_c mp (ob_c (ne_0 gr) (ob_a h11 (ob_c (ne_0 gn) (oV hca))))))⟩
                · rw [gu, decide_eq_true gw] at hR
                  simp only [Bool.not_true, Bool.not_false, Bool.and_true, Bool.and_false, Bool.true_and, Bool.false_and, cond_true, cond_false] at hR
                  subst hR
                  exact fin (res := dwS 0 z3 zV (.si .i64 (dwP N cs len x y z u0).a) (dwP N cs len x y z u0).s (.i .i64 0)) rfl fun e cells off cap hca => ⟨_, by have hr := dwR_gtt N e cells off len cap x y z u0 u1 u2; rw [hnd hca, cut_at hca hl] at hr; exact hr, ob_c (decide_eq_true gw) (ob_c gu (ob_c mp (ob_c (ne_0 gr) (ob_a h11 (ob_c (ne_0 gn) (oV hca))))))⟩
              · cases gu : N.ub (dwMid N (N.re (N.un x y z) (dwN N (N.un x y z) (nd.f 13) u1 u2).1).1).1 (dwMid N (N.re (N.un x y z) (dwN N (N.un x y z) (nd.f 13) u1 u2).1).1).2.1 (dwMid N (N.re (N.un x y z) (dwN N (N.un x y z) (nd.f 13) u1 u2).1).1).2.2
                · rw [gu, decide_eq_false gw] at hR
                  simp only [Bool.not_true, Bool.not_false, Bool.and_true, Bool.and_false, Bool.true_and, Bool.false_and, cond_true, cond_false] at hR
                  subst hR
                  exact fin (res := dwS 0 z3 zV (.si .i64 (dwP N cs len x y z u0).a) (dwP N cs len x y z u0).s (.i .i64 0)) rfl fun e cells off cap hca => ⟨_, by have hr := dwR_gff N e cells off len cap x y z u0 u1 u2; rw [hnd hca, cut_at hca hl] at hr; exact hr, ob_c (decide_eq_false gw) (ob_c gu (ob_c mp (ob_c (ne_0 gr) (ob_a h11 (ob_c (ne_0 gn) (oV hca))))))⟩
                · rw [gu, decide_eq_false gw] at hR
                  simp only [Bool.not_true, Bool.not_false, Bool.and_true, Bool.and_false, Bool.true_and, Bool.false_and, cond_true, cond_false] at hR
                  subst hR
                  exact fin (res := dwS 2 (dwMid N (N.re (N.un x y z) (dwN N (N.un x y z) (nd.f 13) u1 u2).1).1) (N.re (N.un x y z) (dwN N (N.un x y z) (nd.f 13) u1 u2).1).1 (.si .i64 (dwP N cs len x y z u0).a) (dwP N cs len x y z u0).s (.i .i64 0)) rfl fun e cells off cap hca => ⟨_, by have hr := dwR_gtf N e cells off len cap x y z u0 u1 u2; rw [hnd hca, cut_at hca hl] at hr; exact hr, ob_c (decide_eq_false gw) (ob_c gu (ob_c mp (ob_c (ne_0 gr) (ob_a h11 (ob_c (ne_0 gn) (oV hca))))))⟩
            · rw [decide_eq_false gr, cond_false] at hR; subst hR
              exact fin (res := dwS 0 z3 zV (.i .i64 0) false (.si .i64 (N.re (N.un x y z) (dwN N (N.un x y z) (nd.f 13) u1 u2).1).2)) rfl fun e cells off cap hca => ⟨_, by have hr := dwR_r N e cells off len cap x y z u0 u1 u2; rw [hnd hca] at hr; exact hr, ob_c (by simpa using gr) (ob_a h11 (ob_c (ne_0 gn) (oV hca)))⟩
          · have eb : bxF N nd (N.un x y z) u1 u2 = (V3.zero, (dwN N (N.un x y z) (nd.f 13) u1 u2).2) := by unfold bxF; rw [ek, cond_false, decide_eq_false gn, cond_false]
            rw [eb] at hR
            simp only at hR
            rw [decide_eq_false gn, cond_false] at hR; subst hR
            exact fin (res := dwS 0 z3 zV (.i .i64 0) false (.si .i64 (dwN N (N.un x y z) (nd.f 13) u1 u2).2)) rfl fun e cells off cap hca => ⟨_, by have hr := dwR_v N e cells off len cap x y z u0 u1 u2; rw [hnd hca] at hr; exact hr, ob_c (by simpa using gn) (ob_c (by simpa using gn) (oV hca))⟩
    · rw [gg, cond_true] at hR
      subst hR
      exact fin (res := dwS 1 (x.neg, y.neg, z) (dwMir N x y z) (.si .i64 (dwP N cs len x y z u0).a) (dwP N cs len x y z u0).s (.i .i64 0)) rfl fun e cells off cap hca => ⟨_, by have hr := dwR_d N e cells off len cap x y z u0 u1 u2; rw [cut_at hca hl] at hr; exact hr, ob_c g0 (ob_c (ne_0 ge) (ob_a (oP gg) o1))⟩
  · rw [decide_eq_false ge, cond_false] at hR h6
    obtain ⟨gg, _⟩ := ob_hd h6
    subst hR
    exact fin (res := dwS 0 z3 zV (.i .i64 0) false (.si .i64 (dwP N cs len x y z u0).e)) rfl fun e cells off cap hca => ⟨_, by have hr := dwR_c N e cells off len cap x y z u0 u1 u2; rw [cut_at hca hl] at hr; exact hr, ob_c (by simpa using ge) (ob_a (oP gg) o1)⟩
end
def kDw (G : List SV → Nat → F → F → F → Int → Int → Int → DwR) (O : List SV → Nat → F → F → F → Int → Int → Int → Obs) : RdF := fun cs len l ds => match l with
  | [.agg [.fl x, .fl y, .fl z], .agg [a, b, c]] => match intS a, intS b, intS c with
    | some (.u64, u0), some (.u64, u1), some (.u64, u2) => some (dwSv (G cs len x y z u0 u1 u2), ds, O cs len x y z u0 u1 u2)
    | _, _, _ => none
  | _ => none
theorem dwRd {N : Ndr} (hO : OracleOk Tryz.prog (ODw N)) (hD : N.T.o = okPg) : RdOk Tryz.prog 30 (kDw (dwF N) (dwOb N)) := by
  intro cs len l ds x ds' ob h ho
  unfold kDw at h
  split at h
  · rename_i x y z a b c
    split at h
    · rename_i u0 u1 u2 e0 e1 e2
      simp only [Option.some.injEq, Prod.mk.injEq] at h
      obtain ⟨rfl, _, rfl⟩ := h
      obtain ⟨vc, hc, hw⟩ := dw_all hO hD ho
      refine ⟨vc, _, dwV (dwF N cs len x y z u0 u1 u2), hc, ?_, rfl, hw⟩
      have ha := intS_plain e0; have hb := intS_plain e1; have hcc := intS_plain e2
      exact plains_cons rfl (plains_cons (plain_agg (plains_cons ha (plains_cons hb (plains_cons hcc plains_nil)))) plains_nil)
    · cases h
  · cases h
end Go.Proofs.YtgjohjgmlleebaaGreat
namespace Go.Proofs.YtgjohjgmlleebaaGreat
set_option linter.all false
open Go.RowKit Bu Rx
section
variable (N : Npr) (e : TypeId × (Nat × Nat)) (cells : List SV) (off len cap : Nat)
end
end Go.Proofs.YtgjohjgmlleebaaGreat
namespace Go.Proofs.YtgjohjgmlleebaaGreat
set_option linter.all false
open Go.RowKit Bu Rx
section
variable (N : Npr)
end
def NprR : Npr := ⟨leK, leF bwF, U8.ok, frT, wN32, bwF, pairB⟩
end Go.Proofs.YtgjohjgmlleebaaGreat
namespace Go.Proofs.YtgjohjgmlleebaaGreat
set_option linter.all false
open Go.RowKit Bu Rx
end Go.Proofs.YtgjohjgmlleebaaGreat
namespace Go.Proofs.YtgjohjgmlleebaaGreat
set_option linter.all false
open Go.RowKit Bu Rx

theorem lnR_0 {E : List I × Int} {i : Nat} (h : E.2 = 0) : lnR E i = (gt E.1 i, 0) := by
  unfold lnR; rw [show neB E.2 = false by rw [h]; rfl]; rfl
theorem z64_0 : z64.k = 0 := by decide +kernel
/-- within 0 and 1 -/
structure Uz1 (a : I) : Prop where
  rt : rt a = true
  lo : z64.k ≤ a.lo.k
  hi : a.hi.k ≤ one64.k
theorem Uz1.box {a : I} (h : Uz1 a) : InB a bz1 := ⟨h.lo, h.hi, of_decide_eq_true h.rt⟩
end Go.Proofs.YtgjohjgmlleebaaGreat
namespace Bu
set_option linter.all false
open Rx Go

end Bu
namespace Go.Proofs.YtgjohjgmlleebaaGreat
set_option linter.all false
open Go.RowKit Bu Rx

structure B11 (a : I) : Prop where
  rt : rt a = true
  lo : mone64.k ≤ a.lo.k
  hi : a.hi.k ≤ one64.k
theorem B11.box {a : I} (h : B11 a) : InB a b11 := ⟨h.lo, h.hi, of_decide_eq_true h.rt⟩
end Go.Proofs.YtgjohjgmlleebaaGreat
namespace Go.Proofs.YtgjohjgmlleebaaGreat
set_option linter.all false
open Go.RowKit Bu Rx

section
variable {r s i o d p q mx dv : I}
end
end Go.Proofs.YtgjohjgmlleebaaGreat
namespace Bu
set_option linter.all false
open Rx Go

def Lf.c0 (l : Lf) : Lf := ⟨l.k, l.f, 0, l.v, l.u⟩
end Bu
namespace Go.Proofs.YtgjohjgmlleebaaGreat
set_option linter.all false
open Go.RowKit Bu Rx

end Go.Proofs.YtgjohjgmlleebaaGreat
namespace Go.Proofs.YtgjohjgmlleebaaGreat
set_option linter.all false
open Go.RowKit Bu Rx

theorem rng_in {x l h : F} {o : Obs} (k : ObsOk (rngO x l h o)) : (l.k ≤ x.k ∧ x.k ≤ h.k) ∧ ObsOk o := by
  have a := of_decide_eq_false (ob_h k)
  have b := of_decide_eq_false (ob_h (ob_t k))
  exact ⟨⟨by omega, by omega⟩, ob_t (ob_t k)⟩
theorem bnd_of {x l h : F} (k : l.k ≤ x.k ∧ x.k ≤ h.k) : ObsOk (bndO (pF x) l h) := ob_c (decide_eq_true k.2) (ob_c (decide_eq_true k.1) (ob_c (decide_eq_true (Int.le_refl _)) ob_n))
theorem lt3 {P : Nat → Prop} {c : Nat} (h : c < 3) (p0 : P 0) (p1 : P 1) (p2 : P 2) : P c := by
  rcases (by omega : c = 0 ∨ c = 1 ∨ c = 2) with rfl | rfl | rfl
  · exact p0
  · exact p1
  · exact p2
def Rn (l h : F) (x : F) : Prop := l.k ≤ x.k ∧ x.k ≤ h.k
theorem rt1_in {f : Nat → F} (h : ObsOk (rtOb 1 f)) {c : Nat} (hc : c < 3) : Rn z64 one64 (f c) := by
  have h : ObsOk (rtO1 f) := h
  obtain ⟨a2, h⟩ := rng_in (ob_t h)
  obtain ⟨a1, h⟩ := rng_in h
  obtain ⟨a0, _⟩ := rng_in h
  exact lt3 (P := fun c => Rn z64 one64 (f c)) hc a0 a1 a2
theorem rt2_in {f : Nat → F} (h : ObsOk (rtOb 2 f)) {c : Nat} (hc : c < 3) : Rn z64 one64 (f c) ∧ Rn z64 one64 (f 12) := by
  have h : ObsOk (rtO2 f) := h
  obtain ⟨a3, h⟩ := rng_in (ob_t h)
  obtain ⟨a2, h⟩ := rng_in h
  obtain ⟨a1, h⟩ := rng_in h
  obtain ⟨a0, _⟩ := rng_in h
  exact ⟨lt3 (P := fun c => Rn z64 one64 (f c)) hc a0 a1 a2, a3⟩
theorem rt3_in {f : Nat → F} (h : ObsOk (rtOb 3 f)) : Rn minA one64 (f 13) ∧ Rn minIo four64 (f 14) := by
  have h : ObsOk (rtO3 f) := h
  obtain ⟨a3, h⟩ := rng_in (ob_t h)
  obtain ⟨a2, _⟩ := rng_in h
  exact ⟨a2, a3⟩
theorem rt4_in {f : Nat → F} (h : ObsOk (rtOb 4 f)) {c : Nat} (hc : c < 3) : Rn minA one64 (f 13) ∧ Rn minMt maxMt (f (6 + c)) ∧ Rn minMt maxMt (f (9 + c)) := by
  have h : ObsOk (rtO4 f) := h
  obtain ⟨b2, h⟩ := rng_in (ob_t h)
  obtain ⟨b1, h⟩ := rng_in h
  obtain ⟨b0, h⟩ := rng_in h
  obtain ⟨a2, h⟩ := rng_in h
  obtain ⟨a1, h⟩ := rng_in h
  obtain ⟨a0, h⟩ := rng_in h
  obtain ⟨al, _⟩ := rng_in h
  exact ⟨al, lt3 (P := fun c => Rn minMt maxMt (f (6 + c))) hc a0 a1 a2, lt3 (P := fun c => Rn minMt maxMt (f (9 + c))) hc b0 b1 b2⟩
/-- kinds of a right node -/
theorem rt_kind {k : Int} {f : Nat → F} (h : ObsOk (rtOb k f)) : k = 1 ∨ k = 2 ∨ k = 3 ∨ k = 4 := by
  unfold rtOb at h
  split at h
  · exact .inl rfl
  · exact .inr (.inl rfl)
  · exact .inr (.inr (.inl rfl))
  · exact .inr (.inr (.inr rfl))
  · exact absurd (ob_h h) (by simp)
/-- a leaf that may be, two directions that may be, a channel -/
structure LfO (l : Lf) : Prop where
  r : ObsOk (rtOb l.k l.f)
  v : ObsOk (dirO l.v)
  u : ObsOk (dirO l.u)
  c0 : 0 ≤ l.c
  c3 : l.c < 3
theorem LfO.z {l : Lf} (h : LfO l) : LfO l.c0 := ⟨h.r, h.v, h.u, Int.le_refl _, by show (0 : Int) < 3; decide⟩
theorem LfO.n {l : Lf} (h : LfO l) : l.c.toNat < 3 := by have := h.c0; have := h.c3; omega
theorem LfO.ch {l : Lf} (h : LfO l) : ObsOk (chO l) := ob_c (decide_eq_true h.c3) (ob_c (decide_eq_true h.c0) ob_n)
theorem LfO.lk {l : Lf} (h : LfO l) : ObsOk (lkOl l) := ob_a h.u (ob_a h.v (ob_a (ob_c (decide_eq_true h.c3) (ob_c (decide_eq_true h.c0) ob_n)) h.r))
theorem LfO.gl {l : Lf} (h : LfO l) (a : Rn minA one64 (l.f 13)) : ObsOk (glO l.v l.u (pF (l.f 13))) := ob_a (bnd_of a) (ob_a h.v h.u)
theorem LfO.val {l : Lf} (h : LfO l) : ObsOk (vlO l) := by
  have r := h.r
  have lk := h.lk; have ch := h.ch; have n := h.n; have hv := h.v; have hu := h.u; have hg := h.gl
  unfold vlO
  rcases rt_kind r with e | e | e | e <;> rw [e] at r ⊢
  · exact ob_a lk (ob_a ch (bnd_of (rt1_in r n)))
  · obtain ⟨a, b⟩ := rt2_in r n
    exact ob_a lk (ob_a ch (ob_a (bnd_of a) (ob_a (bnd_of b) (ob_a hv hu))))
  · obtain ⟨a, b⟩ := rt3_in r
    exact ob_a lk (ob_a (hg a) (bnd_of b))
  · obtain ⟨a, b, c⟩ := rt4_in r n
    exact ob_a lk (ob_a ch (ob_a (hg a) (ob_a (bnd_of b) (bnd_of c))))
theorem LfO.den {l : Lf} (h : LfO l) : ObsOk (dnO4 l) := by
  have r := h.r
  have lk := h.lk; have ch := h.ch; have n := h.n; have hv := h.v; have hg := h.gl
  unfold dnO4
  rcases rt_kind r with e | e | e | e <;> rw [e] at r ⊢
  · exact ob_a lk (dir_z hv)
  · exact ob_a lk (dir_z hv)
  · exact ob_a lk (hg (rt3_in r).1)
  · exact ob_a lk (hg (rt4_in r n).1)
structure LfP (l : Lf) : Prop where
  r : ObsOk (rtOb l.k l.f)
  v : OneP l.v
  u : OneP l.u
  c0 : 0 ≤ l.c
  c3 : l.c < 3
theorem one_dir {v : V3} (h : OneP v) : ObsOk (dirO v) := by
  obtain ⟨a, b, c⟩ := one_box h
  have e : z64.k ≤ bzz.lo.k := by decide +kernel
  have r : ∀ {x : I}, x.lo.k ≤ x.hi.k → rt x = true := fun k => decide_eq_true k
  exact ob_c (decide_eq_true c.2.1) (ob_c (decide_eq_true (Int.le_trans e c.1)) (ob_c (decide_eq_true b.2.1) (ob_c (decide_eq_true b.1) (ob_c (decide_eq_true a.2.1) (ob_c (decide_eq_true a.1) (ob_c (r c.2.2) (ob_c (r b.2.2) (ob_c (r a.2.2) ob_n))))))))
theorem LfP.o {l : Lf} (h : LfP l) : LfO l := ⟨h.r, one_dir h.v, one_dir h.u, h.c0, h.c3⟩
theorem bn_of {x : F} (h : Rn minIo four64 x) : InB (pF x) bn := ⟨h.1, h.2, Int.le_refl _⟩
end Go.Proofs.YtgjohjgmlleebaaGreat
namespace Bu
set_option linter.all false
open Rx Go
theorem pt_z1 {w : F} (hw : z64.k ≤ w.k ∧ w.k ≤ one64.k) : InB (pt w) bz1 := ⟨hw.1, hw.2, Int.le_refl _⟩
theorem zz_k : F.zero.k = z64.k := by decide +kernel
theorem zs_get {f : Nat → F} {js : List Nat} (h : zsB f js = true) {j : Nat} (hj : j ∈ js) : (f j).k = z64.k := (of_decide_eq_true (List.all_eq_true.1 h j hj)).trans zz_k
theorem rn_get {l h : F} {f : Nat → F} {js : List Nat} (k : rsB l h f js = true) {j : Nat} (hj : j ∈ js) : l.k ≤ (f j).k ∧ (f j).k ≤ h.k := by
  have := List.all_eq_true.1 k j hj
  unfold rnB at this
  simpa using this
theorem rn_one {l h x : F} (k : rnB l h x = true) : l.k ≤ x.k ∧ x.k ≤ h.k := by unfold rnB at k; simpa using k
end Bu
namespace Go.Proofs.YtgjohjgmlleebaaGreat
set_option linter.all false
open Go.RowKit Bu Rx
theorem rng_mk {x l h : F} {o : Obs} (k : l.k ≤ x.k ∧ x.k ≤ h.k) (ho : ObsOk o) : ObsOk (rngO x l h o) := ob_c (decide_eq_false (by omega)) (ob_c (decide_eq_false (by omega)) ho)
theorem nd_leaf {n : Nd} {p : Int} (h : okNd n p = true) (h5 : n.k ≠ 5) (h6 : n.k ≠ 6) : ObsOk (rtOb n.k (etaF n.f)) := by
  obtain ⟨k, f, a, b⟩ := n
  simp only at h5 h6
  unfold okNd at h
  simp only [decide_eq_false h5, decide_eq_false h6, cond_false, Bool.false_and] at h
  by_cases h1 : k = 1
  · subst h1
    simp only [decide_true, cond_true, Bool.and_eq_true] at h
    obtain ⟨r, z, _⟩ := h
    have q : ∀ j, j ∈ [3, 4, 5, 6, 7, 8, 9, 10, 11, 12, 13, 14, 15] → (f j).k = z64.k := fun j hj => zs_get z hj
    have g : ∀ j, j ∈ [0, 1, 2] → z64.k ≤ (f j).k ∧ (f j).k ≤ one64.k := fun j hj => rn_get r hj
    show ObsOk (rtO1 (etaF f))
    refine ob_c ?_ (rng_mk (g 2 (by decide)) (rng_mk (g 1 (by decide)) (rng_mk (g 0 (by decide)) ob_n)))
    unfold eqNd q3E
    simp only [Bool.and_eq_true, decide_eq_true_eq]
    exact ⟨⟨rfl, rfl, rfl, trivial⟩, ⟨q 3 (by decide), q 4 (by decide), q 5 (by decide), trivial⟩, ⟨q 6 (by decide), q 7 (by decide), q 8 (by decide), trivial⟩, ⟨q 9 (by decide), q 10 (by decide), q 11 (by decide), trivial⟩, q 12 (by decide), q 13 (by decide), q 14 (by decide), q 15 (by decide), rfl, rfl, trivial⟩
  simp only [decide_eq_false h1, cond_false] at h
  by_cases h2 : k = 2
  · subst h2
    simp only [decide_true, cond_true, Bool.and_eq_true] at h
    obtain ⟨r, z, _⟩ := h
    have q : ∀ j, j ∈ [3, 4, 5, 6, 7, 8, 9, 10, 11, 13, 14, 15] → (f j).k = z64.k := fun j hj => zs_get z hj
    have g : ∀ j, j ∈ [12, 0, 1, 2] → z64.k ≤ (f j).k ∧ (f j).k ≤ one64.k := fun j hj => rn_get r hj
    show ObsOk (rtO2 (etaF f))
    refine ob_c ?_ (rng_mk (g 12 (by decide)) (rng_mk (g 2 (by decide)) (rng_mk (g 1 (by decide)) (rng_mk (g 0 (by decide)) ob_n))))
    unfold eqNd q3E
    simp only [Bool.and_eq_true, decide_eq_true_eq]
    exact ⟨⟨rfl, rfl, rfl, trivial⟩, ⟨q 3 (by decide), q 4 (by decide), q 5 (by decide), trivial⟩, ⟨q 6 (by decide), q 7 (by decide), q 8 (by decide), trivial⟩, ⟨q 9 (by decide), q 10 (by decide), q 11 (by decide), trivial⟩, rfl, q 13 (by decide), q 14 (by decide), q 15 (by decide), rfl, rfl, trivial⟩
  simp only [decide_eq_false h2, cond_false] at h
  by_cases h3 : k = 3
  · subst h3
    simp only [decide_true, cond_true, Bool.and_eq_true] at h
    obtain ⟨r1, r2, z, _⟩ := h
    have q : ∀ j, j ∈ [0, 1, 2, 3, 4, 5, 6, 7, 8, 9, 10, 11, 12, 15] → (f j).k = z64.k := fun j hj => zs_get z hj
    show ObsOk (rtO3 (etaF f))
    refine ob_c ?_ (rng_mk (rn_one r2) (rng_mk (rn_one r1) ob_n))
    unfold eqNd q3E
    simp only [Bool.and_eq_true, decide_eq_true_eq]
    exact ⟨⟨q 0 (by decide), q 1 (by decide), q 2 (by decide), trivial⟩, ⟨q 3 (by decide), q 4 (by decide), q 5 (by decide), trivial⟩, ⟨q 6 (by decide), q 7 (by decide), q 8 (by decide), trivial⟩, ⟨q 9 (by decide), q 10 (by decide), q 11 (by decide), trivial⟩, q 12 (by decide), rfl, rfl, q 15 (by decide), rfl, rfl, trivial⟩
  simp only [decide_eq_false h3, cond_false] at h
  by_cases h4 : k = 4
  · subst h4
    simp only [decide_true, cond_true, Bool.and_eq_true] at h
    obtain ⟨r1, r2, z, _⟩ := h
    have q : ∀ j, j ∈ [0, 1, 2, 3, 4, 5, 12, 14, 15] → (f j).k = z64.k := fun j hj => zs_get z hj
    have g : ∀ j, j ∈ [6, 7, 8, 9, 10, 11] → minMt.k ≤ (f j).k ∧ (f j).k ≤ maxMt.k := fun j hj => rn_get r2 hj
    show ObsOk (rtO4 (etaF f))
    refine ob_c ?_ (rng_mk (g 11 (by decide)) (rng_mk (g 10 (by decide)) (rng_mk (g 9 (by decide)) (rng_mk (g 8 (by decide)) (rng_mk (g 7 (by decide)) (rng_mk (g 6 (by decide)) (rng_mk (rn_one r1) ob_n)))))))
    unfold eqNd q3E
    simp only [Bool.and_eq_true, decide_eq_true_eq]
    exact ⟨⟨q 0 (by decide), q 1 (by decide), q 2 (by decide), trivial⟩, ⟨q 3 (by decide), q 4 (by decide), q 5 (by decide), trivial⟩, ⟨rfl, rfl, rfl, trivial⟩, ⟨rfl, rfl, rfl, trivial⟩, q 12 (by decide), rfl, q 14 (by decide), q 15 (by decide), rfl, rfl, trivial⟩
  simp only [decide_eq_false h4, cond_false] at h
  cases h
end Go.Proofs.YtgjohjgmlleebaaGreat
