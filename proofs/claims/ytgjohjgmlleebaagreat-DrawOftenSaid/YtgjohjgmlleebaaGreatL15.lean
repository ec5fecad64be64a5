/- Roots of narrow intervals are narrow; directions of numbers are narrow; what a surface reflects is above 0, and all at the edge. Chances of right programs: no errors, boxes. DensMix by the reckoner; right programs of numbers. The chapter's examples of layer 22. DensMix, plain. The draws, really; their known functions with sureness decided. The chapter's examples of layer 23. DrawLeaf by the reckoner. The draws, plain: ends, errors, boxes. The draws, plain: boxes. The draws, plain: what is drawn of a right program. DrawLeaf, proved: ways without an error. DrawLeaf, proved. -/
import Derived.Test.YtgjohjgmlleebaaGreatL14
import Derived.Test.YtgjohjgmlleebaaGreatL13
namespace Bu
set_option linter.all false
open Rx Go
def frHd : List Bu.Op := frD.take 6
def frTl : List Bu.Op := frD.drop 7
set_option maxRecDepth 100000 in
theorem fr_box : (evalK KkR frD [bz1, bn] 0).2 = 0 ∧ (evalK KkR frHd [bz1, bn] 0).2 = 0 ∧ frD.all monoB = true ∧ frHd.all monoB = true ∧ frTl.all monoB = true := by decide +kernel
set_option maxRecDepth 100000 in
theorem fr_box3 : z64.k ≤ (gt (evalK KkR frD [bz1, bn] 0).1 0).lo.k ∧ (gt (evalK KkR frD [bz1, bn] 0).1 0).hi.k ≤ one64.k ∧ z64.k ≤ bzz.lo.k := by decide +kernel
/-- an interval of one number -/
structure Ex (a : I) (x : Rat) : Prop where
  l : a.lo.q = x
  h : a.hi.q = x
end Bu
namespace Go.Proofs.YtgjohjgmlleebaaGreat
set_option linter.all false
open Go.RowKit Bu Rx
set_option maxRecDepth 100000 in
theorem fd_all {c n : I} (hc : InB c bz1) (hn : InB n bn) : ∃ f, lnR (fdK KkR c n) 0 = (f, 0) ∧ Uz1 f := by
  obtain ⟨e, _, m, _⟩ := fr_box
  obtain ⟨l, h, _⟩ := fr_box3
  have b := box (v := [c, n]) (w := [bz1, bn]) m ⟨hc, hn, trivial⟩ e
  have k := (b.2 0).inB
  exact ⟨gt (evalK KkR frD [c, n] 0).1 0, lnR_0 (E := evalK KkR frD [c, n] 0) (i := 0) b.1, (b.2 0).rt, Int.le_trans l k.1, Int.le_trans k.2.1 h⟩
theorem bzz_bz1 {c : I} (h : InB c bzz) : InB c bz1 := ⟨Int.le_trans fr_box3.2.2 h.1, h.2.1, h.2.2⟩
end Go.Proofs.YtgjohjgmlleebaaGreat
namespace Go.Proofs.YtgjohjgmlleebaaGreat
set_option linter.all false
open Go.RowKit Bu Rx
theorem obsB_of {o : Obs} (h : ObsOk o) : Bu.obsB o = true := List.all_eq_true.2 fun p hp => by simp [h p hp]
theorem okNd_coatf {n : Nd} {p : Int} (h : okNd n p = true) (h6 : n.k = 6) : Rn minIo four64 (n.f 14) ∧ ∀ j, j ∈ [3, 4, 5] → z64.k ≤ (n.f j).k ∧ (n.f j).k ≤ one64.k := by
  unfold okNd at h
  rw [h6] at h
  simp only [Bool.and_eq_true, Int.reduceEq, decide_false, decide_true, cond_false, Bool.true_and] at h
  exact ⟨rn_one h.1, fun j hj => rn_get h.2.1 hj⟩
theorem fd_o {c : I} {x : F} (hc : InB c bz1) (hx : Rn minIo four64 x) : ObsOk (fdO c (pF x)) := ob_a (bnd_of hx) (ob_c (decide_eq_true hc.2.1) (ob_c (decide_eq_true hc.1) (ob_c (decide_eq_true hc.2.2) ob_n)))
end Go.Proofs.YtgjohjgmlleebaaGreat
namespace Bu
set_option linter.all false
open Rx Go
theorem bw_rn {l h : F} {n : Int} (hl : l.k ≤ h.k) : rnB l h (bwF l h n) = true := by
  have := bwF_in (n := n) hl
  unfold rnB
  rw [decide_eq_true this.1, decide_eq_true this.2]; rfl
theorem zs_c (js : List Nat) : zsB (fun _ => z64) js = true := List.all_eq_true.2 fun _ _ => decide_eq_true zz_k.symm
theorem okNd_1 {x y z : F} (hx : rnB z64 one64 x = true) (hy : rnB z64 one64 y = true) (hz : rnB z64 one64 z = true) (p : Int) : okNd ⟨1, ndM x y z z64 z64 z64 z64 z64 z64 z64 z64 z64 z64 z64 z64 z64, 0, 0⟩ p = true := by
  show ((rnB z64 one64 x && (rnB z64 one64 y && (rnB z64 one64 z && true))) && (zsB (fun _ => z64) [3, 4, 5, 6, 7, 8, 9, 10, 11, 12, 13, 14, 15] && (decide ((0 : Int) = 0) && decide ((0 : Int) = 0)))) = true
  rw [hx, hy, hz, zs_c]; rfl
theorem okNd_2 {x y z s : F} (hx : rnB z64 one64 x = true) (hy : rnB z64 one64 y = true) (hz : rnB z64 one64 z = true) (hs : rnB z64 one64 s = true) (p : Int) : okNd ⟨2, ndM x y z z64 z64 z64 z64 z64 z64 z64 z64 z64 s z64 z64 z64, 0, 0⟩ p = true := by
  show ((rnB z64 one64 s && (rnB z64 one64 x && (rnB z64 one64 y && (rnB z64 one64 z && true)))) && (zsB (fun _ => z64) [3, 4, 5, 6, 7, 8, 9, 10, 11, 13, 14, 15] && (decide ((0 : Int) = 0) && decide ((0 : Int) = 0)))) = true
  rw [hx, hy, hz, hs, zs_c]; rfl
theorem okNd_3 {a n : F} (ha : rnB minA one64 a = true) (hn : rnB minIo four64 n = true) (p : Int) : okNd ⟨3, ndM z64 z64 z64 z64 z64 z64 z64 z64 z64 z64 z64 z64 z64 a n z64, 0, 0⟩ p = true := by
  show (rnB minA one64 a && (rnB minIo four64 n && (zsB (fun _ => z64) [0, 1, 2, 3, 4, 5, 6, 7, 8, 9, 10, 11, 12, 15] && (decide ((0 : Int) = 0) && decide ((0 : Int) = 0))))) = true
  rw [ha, hn, zs_c]; rfl
theorem okNd_4 {a e0 e1 e2 k0 k1 k2 : F} (ha : rnB minA one64 a = true) (h0 : rnB minMt maxMt e0 = true) (h1 : rnB minMt maxMt e1 = true) (h2 : rnB minMt maxMt e2 = true) (h3 : rnB minMt maxMt k0 = true) (h4 : rnB minMt maxMt k1 = true) (h5 : rnB minMt maxMt k2 = true) (p : Int) : okNd ⟨4, ndM z64 z64 z64 z64 z64 z64 e0 e1 e2 k0 k1 k2 z64 a z64 z64, 0, 0⟩ p = true := by
  show (rnB minA one64 a && ((rnB minMt maxMt e0 && (rnB minMt maxMt e1 && (rnB minMt maxMt e2 && (rnB minMt maxMt k0 && (rnB minMt maxMt k1 && (rnB minMt maxMt k2 && true)))))) && (zsB (fun _ => z64) [0, 1, 2, 3, 4, 5, 12, 14, 15] && (decide ((0 : Int) = 0) && decide ((0 : Int) = 0))))) = true
  rw [ha, h0, h1, h2, h3, h4, h5, zs_c]; rfl
def leNd (u : U8) : Nd := ⟨leK u, ndM (leF bwF u 0) (leF bwF u 1) (leF bwF u 2) (leF bwF u 3) (leF bwF u 4) (leF bwF u 5) (leF bwF u 6) (leF bwF u 7) (leF bwF u 8) (leF bwF u 9) (leF bwF u 10) (leF bwF u 11) (leF bwF u 12) (leF bwF u 13) (leF bwF u 14) (leF bwF u 15), 0, 0⟩
theorem okNd_le (u : U8) (p : Int) : okNd (leNd u) p = true := by
  obtain ⟨e1, e2, e3, e4⟩ := rk_le
  unfold leNd leK leF
  cases decide (u.a0.tmod 4 = 0)
  · cases decide (u.a0.tmod 4 = 1)
    · cases decide (u.a0.tmod 4 = 2)
      · exact okNd_4 (bw_rn e2) (bw_rn e4) (bw_rn e4) (bw_rn e4) (bw_rn e4) (bw_rn e4) (bw_rn e4) p
      · exact okNd_3 (bw_rn e2) (bw_rn e3) p
    · exact okNd_2 (bw_rn e1) (bw_rn e1) (bw_rn e1) (bw_rn e1) p
  · exact okNd_1 (bw_rn e1) (bw_rn e1) (bw_rn e1) p
theorem okNd_5 {w : F} {a b p : Int} (hw : rnB z64 one64 w = true) (a0 : 0 ≤ a) (a1 : a < p) (b0 : 0 ≤ b) (b1 : b < p) : okNd ⟨5, ndM z64 z64 z64 z64 z64 z64 z64 z64 z64 z64 z64 z64 z64 z64 z64 w, a, b⟩ p = true := by
  show (rnB z64 one64 w && (zsB (fun _ => z64) [0, 1, 2, 3, 4, 5, 6, 7, 8, 9, 10, 11, 12, 13, 14] && (decide (0 ≤ a) && (decide (a < p) && (decide (0 ≤ b) && decide (b < p)))))) = true
  rw [hw, zs_c, decide_eq_true a0, decide_eq_true a1, decide_eq_true b0, decide_eq_true b1]; rfl
theorem okNd_6 {n t0 t1 t2 : F} {a p : Int} (hn : rnB minIo four64 n = true) (h0 : rnB z64 one64 t0 = true) (h1 : rnB z64 one64 t1 = true) (h2 : rnB z64 one64 t2 = true) (a0 : 0 ≤ a) (a1 : a < p) : okNd ⟨6, ndM z64 z64 z64 t0 t1 t2 z64 z64 z64 z64 z64 z64 z64 z64 n z64, a, 0⟩ p = true := by
  show (decide ((6 : Int) = 6) && (rnB minIo four64 n && ((rnB z64 one64 t0 && (rnB z64 one64 t1 && (rnB z64 one64 t2 && true))) && (zsB (fun _ => z64) [0, 1, 2, 6, 7, 8, 9, 10, 11, 12, 13, 15] && (decide (0 ≤ a) && (decide (a < p) && decide ((0 : Int) = 0))))))) = true
  rw [hn, h0, h1, h2, zs_c, decide_eq_true a0, decide_eq_true a1]; rfl
theorem okPg_mk {cs : List SV} {len : Nat} (h1 : (plains cs).isSome = true) (h2 : 1 ≤ len) (h3 : len ≤ 4096) (h4 : ∀ i, i < len → okAt cs i = true) : okPg cs len = true := by
  unfold okPg
  rw [h1, decide_eq_true h2, decide_eq_true h3, List.all_eq_true.2 fun i hi => h4 i (List.mem_range.1 hi)]; rfl
theorem okAt_mk {cs : List SV} {i : Nat} (h1 : ckAll cs (i * 19) ndCK = true) (h2 : okNd (ndR cs (i * 19)) i = true) : okAt cs i = true := by
  unfold okAt; rw [h1, h2]; rfl
end Bu
namespace Go.Proofs.YtgjohjgmlleebaaGreat
set_option linter.all false
open Go.RowKit Bu Rx
/-- are two intervals the same? -/
def eqIv (a b : I) : Bool := decide (a.lo.k = b.lo.k) && (decide (a.hi.k = b.hi.k) && true)
/-- a mix, a coat: cells -/
def mxJ (w : F) (a b : Int) : List SV := [.i .u8 5, fz, fz, fz, fz, fz, fz, fz, fz, fz, fz, fz, fz, fz, fz, fz, .fl w, .i .i64 a, .i .i64 b]
def coJ (n t0 t1 t2 : F) (a : Int) : List SV := [.i .u8 6, fz, fz, fz, .fl t0, .fl t1, .fl t2, fz, fz, fz, fz, fz, fz, fz, fz, .fl n, fz, .i .i64 a, .i .i64 0]
def leC (N : Npr) (a : U8) : List SV := nzC (N.k a) (N.f a)
def dirU (N : Npr) (x y z : Int) : Obs := [(N.p d64 one64, true), (N.w z, true), (N.p mone64 one64, true), (N.w y, true), (N.p mone64 one64, true), (N.w x, true)]
def dmMx (N : Npr) (a b : U8) (w : Int) : List SV := leC N a ++ (leC N b ++ mxJ (N.q w) 0 1)
def dmCo (N : Npr) (a b : U8) (i : Int) : List SV := leC N a ++ (leC N b ++ coJ (N.b minIo four64 i) F.zero F.zero F.zero 1)
end Go.Proofs.YtgjohjgmlleebaaGreat
namespace Go.Proofs.YtgjohjgmlleebaaGreat
set_option linter.all false
open Go.RowKit Bu Rx
/-- one or the other -/
def eiO (f g : OF) : OF := fun a M ds => match f a M ds with
  | some r => some r
  | none => g a M ds
theorem eiO_ok {P : Program} {g : FuncId} {f h : OF} (hf : OfOk P g f) (hh : OfOk P g h) : OfOk P g (eiO f h) := by
  intro args M ds x M' ds' ob hk ho
  unfold eiO at hk
  split at hk
  · rename_i r hr
    cases hk
    exact hf args M ds x M' ds' ob hr ho
  · exact hh args M ds x M' ds' ob hk ho
def kNilR : List SV → Dec → Option (SV × Dec × Obs)
  | [.o (.slice none 0 0)], ds => some (.b false, ds, [])
  | _, _ => none
theorem rgtNil : valR ((run Tryz.prog EG (lookO []) 60).1 31 [.o (.slice none 0 0)] [] (some [])) = some (.b false, some [], []) := by kernel_rfl
theorem nilRG : PlainOk Tryz.prog 31 kNilR := by
  intro args ds x ds' ob h ho
  unfold kNilR at h
  split at h
  · simp only [Option.some.injEq, Prod.mk.injEq] at h
    obtain ⟨rfl, _, rfl⟩ := h
    exact ⟨[.slice none 0 0], _, rfl, rfl, fun w => calls_of_val goodG (OracleOk.nil _) 60 rgtNil ob_n rfl rfl w⟩
  · cases h
end Go.Proofs.YtgjohjgmlleebaaGreat
namespace Bu
set_option linter.all false
open Rx Go
theorem okAt_n {cs : List SV} {i : Nat} {n : Nd} (h1 : ckAll cs (i * 19) ndCK = true) (hn : ndR cs (i * 19) = n) (h2 : okNd n i = true) : okAt cs i = true := okAt_mk h1 (by rw [hn]; exact h2)
end Bu
namespace Go.Proofs.YtgjohjgmlleebaaGreat
set_option linter.all false
open Go.RowKit Bu Rx
theorem le_no (u : U8) : (leNd u).k ≠ 5 ∧ (leNd u).k ≠ 6 := by
  show leK u ≠ 5 ∧ leK u ≠ 6
  rcases le_kind u with e | e | e | e <;> rw [e] <;> constructor <;> omega
/-- directions of numbers -/
theorem bw_up (n : Int) : decide ((bwF d64 one64 n).k ≤ z64.k) = false := by
  refine decide_eq_false fun h => ?_
  have h1 := (bwN2 (n := n)).1
  have h2 := q_le.2 h
  have h3 : z64.q = 0 := zero0_q
  rw [h3] at h2
  grind
theorem dirU_ok {x y z : Int} (hx : wN32 x = true) (hy : wN32 y = true) (hz : wN32 z = true) : ObsOk (dirU NprR x y z) := by
  obtain ⟨_, _, _, _, p1, p2⟩ := rk_p
  exact ob_c p2 (ob_c hz (ob_c p1 (ob_c hy (ob_c p1 (ob_c hx ob_n)))))
theorem fr_rn {n : Int} (h : wN32 n = true) : rnB z64 one64 (frT n) = true := by
  obtain ⟨t, e1, t0, t1, _⟩ := frT_ok h
  have eT : frT n = t := by
    unfold frT
    rw [e1]
    exact toF_F t
  rw [eT]
  have zk : z64.k = 0 := z64_0
  unfold rnB
  rw [decide_eq_true (show z64.k ≤ t.k by omega), decide_eq_true t1]; rfl
theorem okPg_mx (a b : U8) {w : Int} (hw : wN32 w = true) : okPg (dmMx NprR a b w) 3 = true := okPg_mk rfl (by decide) (by decide) fun i hi => by
  rcases (by omega : i = 0 ∨ i = 1 ∨ i = 2) with rfl | rfl | rfl
  · exact okAt_n (by kernel_rfl) (n := leNd a) (by kernel_rfl) (okNd_le a _)
  · exact okAt_n (by kernel_rfl) (n := leNd b) (by kernel_rfl) (okNd_le b _)
  · exact okAt_n (by kernel_rfl) (n := ⟨5, ndM z64 z64 z64 z64 z64 z64 z64 z64 z64 z64 z64 z64 z64 z64 z64 (frT w), 0, 1⟩) (by kernel_rfl) (okNd_5 (fr_rn hw) (by decide) (by decide) (by decide) (by decide))
theorem okPg_co (a b : U8) (i : Int) : okPg (dmCo NprR a b i) 3 = true := okPg_mk rfl (by decide) (by decide) fun j hj => by
  rcases (by omega : j = 0 ∨ j = 1 ∨ j = 2) with rfl | rfl | rfl
  · exact okAt_n (by kernel_rfl) (n := leNd a) (by kernel_rfl) (okNd_le a _)
  · exact okAt_n (by kernel_rfl) (n := leNd b) (by kernel_rfl) (okNd_le b _)
  · have z0 : rnB z64 one64 z64 = true := by decide +kernel
    exact okAt_n (by kernel_rfl) (n := ⟨6, ndM z64 z64 z64 z64 z64 z64 z64 z64 z64 z64 z64 z64 z64 z64 (bwF minIo four64 i) z64, 1, 0⟩) (by kernel_rfl) (okNd_6 (bw_rn rk_le.2.2.1) z0 z0 z0 (by decide) (by decide))
theorem u32_w {n : Int} (h : (Lit.int .u32 n).wf = true) : wN32 n = true := by
  have : 0 ≤ n ∧ n ≤ 4294967295 := by simpa [Lit.wf, IntKind.min, IntKind.max, IntKind.signed, IntKind.bits] using h
  exact decide_eq_true this
theorem u8_mk {x0 x1 x2 x3 x4 x5 x6 x7 : Int} (h0 : (Lit.int .u32 x0).wf = true) (h1 : (Lit.int .u32 x1).wf = true) (h2 : (Lit.int .u32 x2).wf = true) (h3 : (Lit.int .u32 x3).wf = true) (h4 : (Lit.int .u32 x4).wf = true) (h5 : (Lit.int .u32 x5).wf = true) (h6 : (Lit.int .u32 x6).wf = true) (h7 : (Lit.int .u32 x7).wf = true) : (U8.mk x0 x1 x2 x3 x4 x5 x6 x7).ok = true := by
  unfold U8.ok
  simp only [u32_w h0, u32_w h1, u32_w h2, u32_w h3, u32_w h4, u32_w h5, u32_w h6, u32_w h7, Bool.and_self]
end Go.Proofs.YtgjohjgmlleebaaGreat
namespace Go.Proofs.YtgjohjgmlleebaaGreat
set_option linter.all false
open Go.RowKit Bu Rx
noncomputable def PaN : Npa := ⟨KkR, okPg, fun c n => lnR (fdK KkR c n) 0, fdO, unI, fun n => decide (0 ≤ n ∧ n ≤ 18446744073709551615)⟩
theorem oraclePa : OracleOk Tryz.prog (OPa PaN) :=
  .cons addC <| .cons subC <| .cons mulC <| .cons divC <| .cons cmax_I <| .cons sqrC <| .cons csqrt_I <|
  .cons negC <|
  .cons numC <| .cons irtK.of <| .cons rightG.of <| .cons absG.of <| .cons vwG.of <| .cons piG.of <| .cons rgtG.of <| .cons fdG.of <| .cons unitG.of <| .nil _
theorem ptK_ : RdOk Tryz.prog 28 (kPt_ (nPt PaN)) := ptRd oraclePa rfl rfl
noncomputable def TpR : Npt := nPt PaN
noncomputable def DwN : Ndr := ⟨KkR, TpR, unV KkR, unB, dV (KqR atR), vdR, drO (KqR atR), reR KkR, rt3, midM⟩
theorem oracleDw : OracleOk Tryz.prog (ODw DwN) :=
  .cons addC <| .cons subC <| .cons mulC <| .cons divC <| .cons cmax_I <| .cons sqrC <| .cons csqrt_I <|
  .cons negC <|
  .cons numC <| .cons irtK.of <| .cons rightG.of <| .cons absG.of <| .cons vwG.of <| .cons piG.of <| .cons rgtG.of <| .cons unG.of <| .cons ptK_.of <| .cons drawG.of <| .cons drG.of <| .cons reG.of <| .cons stG.of <| .cons midG.of <| .nil _
/-- names of a draw -/
structure Nds where
  g : List SV → Nat → F → F → F → Int → Int → Int → DwR
  o : List SV → Nat → F → F → F → Int → Int → Int → Obs
noncomputable def DsR : Nds := ⟨dwF DwN, dwOb DwN⟩
theorem dwK : RdOk Tryz.prog 30 (kDw DsR.g DsR.o) := dwRd oracleDw rfl
def kDwS (D : Nds) : RdF := fun cs len l ds => match l with
  | [.agg [.fl x, .fl y, .fl z], .agg [a, b, c]] => match intS a, intS b, intS c with
    | some (.u64, u0), some (.u64, u1), some (.u64, u2) => (takeB ds (D.g cs len x y z u0 u1 u2).s).map fun r => (dwSv ⟨(D.g cs len x y z u0 u1 u2).k, (D.g cs len x y z u0 u1 u2).p, (D.g cs len x y z u0 u1 u2).b, (D.g cs len x y z u0 u1 u2).a, r.1, (D.g cs len x y z u0 u1 u2).e⟩, r.2.1, D.o cs len x y z u0 u1 u2 ++ r.2.2)
    | _, _, _ => none
  | _ => none
theorem kDwS_of {D : Nds} {g : FuncId} (h : RdOk Tryz.prog g (kDw D.g D.o)) : RdOk Tryz.prog g (kDwS D) := by
  intro cs len l ds x ds' ob h1 ho
  unfold kDwS at h1
  split at h1
  · rename_i x y z a b c
    split at h1
    · rename_i u0 u1 u2 e0 e1 e2
      simp only [Option.map_eq_some_iff, Prod.mk.injEq] at h1
      obtain ⟨⟨r, dd, oo⟩, h2, rfl, rfl, rfl⟩ := h1
      have hd := takeB_ok h2 ho.right
      subst hd
      refine h cs len [.agg [.fl x, .fl y, .fl z], .agg [a, b, c]] ds _ ds _ ?_ ho.left
      unfold kDw
      simp only [e0, e1, e2]
    · cases h1
  · cases h1
def kPtS (T : Npt) : RdF := fun cs len l ds => match l with
  | [.agg [.fl lo, .fl hi], y] => match intS y with
    | some (.u64, u) => (takeB ds (T.g ⟨lo, hi⟩ u cs len).g).bind fun r => (takeB r.2.1 (T.g ⟨lo, hi⟩ u cs len).s).map fun q => (.tup [.si .i64 (T.g ⟨lo, hi⟩ u cs len).a, .b r.1, .b q.1, .si .i64 (T.g ⟨lo, hi⟩ u cs len).e], q.2.1, ((decide (cs.length = len * 19), true) :: (T.o cs len, true) :: (T.b ⟨lo, hi⟩ cs len, true) :: (T.u u, true) :: cosO ⟨lo, hi⟩) ++ (q.2.2 ++ r.2.2))
    | _ => none
  | _ => none
theorem kPtS_of {T : Npt} {g : FuncId} (h : RdOk Tryz.prog g (kPt_ T)) : RdOk Tryz.prog g (kPtS T) := by
  intro cs len l ds x ds' ob h1 ho
  unfold kPtS at h1
  split at h1
  · rename_i lo hi y
    split at h1
    · rename_i u hu
      simp only [Option.bind_eq_some_iff, Option.map_eq_some_iff, Prod.mk.injEq] at h1
      obtain ⟨⟨r, dd, oo⟩, h2, ⟨q, d2, o2⟩, h3, rfl, rfl, rfl⟩ := h1
      have hd := takeB_ok h2 ho.right.right
      have hq := takeB_ok h3 ho.right.left
      subst hd hq
      refine h cs len [.agg [.fl lo, .fl hi], y] none _ none _ ?_ (ob_a ho.left ob_n)
      unfold kPt_
      simp only [hu]
      rfl
    · cases h1
  · cases h1
end Go.Proofs.YtgjohjgmlleebaaGreat
namespace Go.Proofs.YtgjohjgmlleebaaGreat
set_option linter.all false
open Go.RowKit Bu Rx
/-- a draw of no program -/
def kDwNil : List SV → Dec → Option (SV × Dec × Obs)
  | [.o (.slice none 0 0), .agg [.fl x, .fl y, .fl z], .agg [a, b, c]], ds => match intS a, intS b, intS c with
    | some (.u64, _), some (.u64, _), some (.u64, _) => some (dwSv (dwZ 210), ds, [])
    | _, _, _ => none
  | _, _ => none
def ONil : OracleF := lookO [(31, plainO kNilR)]
theorem dwNilRun (x y z : F) (a b c : Int) : valR ((run Tryz.prog EG ONil 60).1 30 [.o (.slice none 0 0), .agg [.fl x, .fl y, .fl z], .agg [.si .u64 a, .si .u64 b, .si .u64 c]] [] (some [])) = some (dwS 0 z3 zV (.i .i64 0) false (.i .i64 210), some [], []) := by kernel_rfl
theorem dwNilG : PlainOk Tryz.prog 30 kDwNil := by
  intro args ds x ds' ob h ho
  unfold kDwNil at h
  split at h
  · rename_i x y z a b c
    split at h
    · rename_i u0 u1 u2 e0 e1 e2
      simp only [Option.some.injEq, Prod.mk.injEq] at h
      obtain ⟨rfl, _, rfl⟩ := h
      refine ⟨[.slice none 0 0, .agg #[.float .f64 x.b, .float .f64 y.b, .float .f64 z.b], .agg #[.int .u64 u0, .int .u64 u1, .int .u64 u2]], dwV (dwZ 210), ?_, rfl, fun w => ?_⟩
      · have ha := intS_plain e0; have hb := intS_plain e1; have hcc := intS_plain e2
        exact plains_cons rfl (plains_cons rfl (plains_cons (plain_agg (plains_cons ha (plains_cons hb (plains_cons hcc plains_nil)))) plains_nil))
      · exact calls_of_val goodG (.cons nilRG.of (.nil _)) 60 (dwNilRun x y z u0 u1 u2) ob_n rfl rfl w
    · cases h
  · cases h
def dwO_ (D : Nds) : OF := eiO (plainO kDwNil) (kRd 19 (kDwS D))
theorem dwOG : OfOk Tryz.prog 30 (dwO_ DsR) := eiO_ok dwNilG.of (kDwS_of dwK).of
def OA23 (D : Nds) : OracleF := lookO [(30, dwO_ D)]
def awD23 : List Bool := [true, true, true, false, false] ++ List.replicate 15 true
/-- what a run asks -/
noncomputable def aw23 (D : Nds) : Obs := match valR ((run Tryz.prog EG (OA23 D) 120).1 29 [] [] (some awD23)) with
  | some r => r.2.2
  | none => []
theorem aw23Run (D : Nds) : valR ((run Tryz.prog EG (OA23 D) 120).1 29 [] [] (some awD23)) = some (.b true, some [], aw23 D) := by kernel_rfl
set_option maxRecDepth 100000 in
theorem aw23_B : Bu.obsB (aw23 DsR) = true := by decide +kernel
theorem oracleA23 : OracleOk Tryz.prog (OA23 DsR) := .cons dwOG (.nil _)
theorem awake23G : PlainOk Tryz.prog 29 (oConst (.b true)) := constG rfl fun w => calls_of_val goodG oracleA23 120 (aw23Run DsR) (obsB_ok aw23_B) rfl rfl w
end Go.Proofs.YtgjohjgmlleebaaGreat
namespace Go.Proofs.YtgjohjgmlleebaaGreat
set_option linter.all false
open Go.RowKit Bu Rx
def u3S (a b c : Int) : SV := .agg [.si .u32 a, .si .u32 b, .si .u32 c]
def u3L (a b c : Int) : SV := .agg [.si .u64 a, .si .u64 b, .si .u64 c]
def OLf_ (N : Npr) (D : Nds) : OracleF := lookO [(22, plainO (kLe8 N.k N.f N.o)), (25, plainO (kFq N.q N.w)), (19, plainO (kBw N.b N.p N.w)), (30, dwO_ D), (29, plainO (oConst (.b true)))]
def dlMx (N : Npr) (a : U8) (w : Int) : List SV := leC N a ++ mxJ (N.q w) 0 0
/-- are two triples, two boxes the same? -/
def eqF3 (p q : F × F × F) : Bool := decide (p.1.k = q.1.k) && (decide (p.2.1.k = q.2.1.k) && (decide (p.2.2.k = q.2.2.k) && true))
def eqV3 (p q : V3) : Bool := eqIv p.x q.x && (eqIv p.y q.y && (eqIv p.z q.z && true))
section
variable (N : Npr) (D : Nds) (a : U8) (w x y z u0 u1 u2 : Int)
def dlA (N : Npr) (D : Nds) (a : U8) (x y z u0 u1 u2 : Int) : DwR := D.g (leC N a) 1 (N.b mone64 one64 x) (N.b mone64 one64 y) (N.b d64 one64 z) u0 u1 u2
def dlB (N : Npr) (D : Nds) (a : U8) (w x y z u0 u1 u2 : Int) : DwR := D.g (dlMx N a w) 2 (N.b mone64 one64 x) (N.b mone64 one64 y) (N.b d64 one64 z) u0 u1 u2
def dlTl (N : Npr) (D : Nds) (a : U8) (w x y z u0 u1 u2 : Int) (s t : Bool) : Obs :=
  (D.o (dlMx N a w) 2 (N.b mone64 one64 x) (N.b mone64 one64 y) (N.b d64 one64 z) u0 u1 u2 ++ [((dlB N D a w x y z u0 u1 u2).s, t)]) ++ ([(N.w w, true)] ++ ((D.o (leC N a) 1 (N.b mone64 one64 x) (N.b mone64 one64 y) (N.b d64 one64 z) u0 u1 u2 ++ [((dlA N D a x y z u0 u1 u2).s, s)]) ++ (dirU N x y z ++ [(N.o a, true)])))
def dlE (A B : DwR) : Obs := [(A.e != 0, true), (A.e != B.e, false)]
def dlO (A B : DwR) : Obs := [(eqV3 A.b B.b, true), (eqF3 A.p B.p, true), (A.k == B.k, true), (B.a == 0, true), (A.a == 0, true), (A.e != 0, false), (A.e != B.e, false)]
noncomputable abbrev dlRn (d : List Bool) : Option (SV × Dec × Obs) := valR ((run Tryz.prog EG (OLf_ N D) 120).1 7 [a.sv, .si .u32 w, u3S x y z, u3L u0 u1 u2] [] (some d))
theorem dlR_t (t : Bool) : dlRn N D a w x y z u0 u1 u2 ([true, t] ++ [false, false, true, true, true, true, true]) = some (.b true, some [], dlO (dlA N D a x y z u0 u1 u2) (dlB N D a w x y z u0 u1 u2) ++ dlTl N D a w x y z u0 u1 u2 true t) := by cases t <;> kernel_rfl
theorem dlR_z : dlRn N D a w x y z u0 u1 u2 [false, false, false, true, true] = some (.b true, some [], ((dlA N D a x y z u0 u1 u2).e == 11, true) :: (dlE (dlA N D a x y z u0 u1 u2) (dlB N D a w x y z u0 u1 u2) ++ dlTl N D a w x y z u0 u1 u2 false false)) := by kernel_rfl
theorem dlR_o : dlRn N D a w x y z u0 u1 u2 [false, false, false, true, false, true] = some (.b true, some [], ((dlA N D a x y z u0 u1 u2).e == 10, true) :: ((dlA N D a x y z u0 u1 u2).e == 11, false) :: (dlE (dlA N D a x y z u0 u1 u2) (dlB N D a w x y z u0 u1 u2) ++ dlTl N D a w x y z u0 u1 u2 false false)) := by kernel_rfl
end
end Go.Proofs.YtgjohjgmlleebaaGreat
namespace Bu
set_option linter.all false
open Rx Go
/-- a direction that may be: every part an interval, not below the horizon -/
structure DirP (v : V3) : Prop where
  x : In1 v.x
  y : In1 v.y
  z : InB v.z bz1
theorem irt {a : I} (h : In1 a) : rt a = true := decide_eq_true h.rt
theorem DirP.zi {v : V3} (h : DirP v) : In1 v.z := ⟨Int.le_trans (by decide +kernel : mone64.k ≤ z64.k) h.z.1, h.z.2.1, h.z.2.2⟩
theorem kept_in1 {a : I} (h : rt a = true) : InB (keptF a) bz1 := by
  obtain ⟨e1, e2⟩ := keptI_k a z64 one64
  have h1 := of_decide_eq_true h
  have zo : z64.k ≤ one64.k := by decide +kernel
  unfold keptF
  refine ⟨?_, ?_, ?_⟩
  · rw [e1]; show z64.k ≤ _; omega
  · rw [e2]; show _ ≤ one64.k; omega
  · rw [e1, e2]; omega
theorem onB_er {s t : I} (hs : rt s = true) (ht : rt t = true) : Er (onB KkR 0 s t).2 := by
  have h := eval_er' (l := [.div 1 0]) (s := [false, false]) (v := [t, s]) rfl (fun i hi => by
    match i, hi with
    | 0, h => exact absurd h (by decide)
    | 1, h => exact absurd h (by decide)
    | i + 2, h => exact absurd h (by simp)) (fun a ha => by
    simp only [List.mem_cons, List.not_mem_nil, or_false] at ha
    rcases ha with rfl | rfl <;> assumption)
  exact h
theorem onN_er {s t : I} (hs : rt s = true) (ht : rt t = true) : Er (onN KkR 0 s t).2 := by
  have h := eval_er' (l := [.sub 1 0, .sub 3 1, .div 1 0]) (s := [false, false, false]) (v := [t, s, pt one64]) rfl (fun i hi => by
    match i, hi with
    | 0, h => exact absurd h (by decide)
    | 1, h => exact absurd h (by decide)
    | 2, h => exact absurd h (by decide)
    | i + 3, h => exact absurd h (by simp)) (fun a ha => by
    simp only [List.mem_cons, List.not_mem_nil, or_false] at ha
    rcases ha with rfl | rfl | rfl
    · assumption
    · assumption
    · exact decide_eq_true (Int.le_refl _))
  exact h
theorem ask_z {e : Int} {g : Bool} {r : I × Int} (h : (askI e g r).2 ≠ 0) : (askI e g r).1 = I.zero := by
  unfold askI at h ⊢
  cases h1 : !(e == 0)
  · rw [h1, cond_false] at h
    have he : e = 0 := by simpa using h1
    cases g
    · rfl
    · rw [cond_true] at h
      cases h2 : !(r.2 == 0)
      · rw [h2, cond_false] at h
        exact absurd he h
      · rfl
  · rfl
theorem div_rt {e : Int} {a b : I} : rt (KkR.div e a b).1 = true := by
  by_cases h : (KkR.div e a b).2 = 0
  · exact (div_0 h).2.2.2.2.2.rt
  · have h' : (cDiv pDiv e a b).2 ≠ 0 := h
    show rt (cDiv pDiv e a b).1 = true
    unfold cDiv at h' ⊢
    rw [ask_z h']; decide
theorem onB_in {e : Int} {s t : I} : InB (onB KkR e s t).1 bz1 := kept_in1 div_rt
theorem onN_in {e : Int} {s t : I} : InB (onN KkR e s t).1 bz1 := kept_in1 div_rt
theorem inb_rt {a b : I} (h : InB a b) : rt a = true := decide_eq_true h.2.2
end Bu
namespace Go.Proofs.YtgjohjgmlleebaaGreat
set_option linter.all false
open Go.RowKit Bu Rx
theorem dirP_of {v : V3} (h : OneP v) : DirP v := ⟨h.x, h.y, bzz_bz1 (one_box h).2.2⟩
/-- where a way ends -/
structure EndP (cs : List SV) (len : Nat) (r : Pst × Bool) : Prop where
  er : Er r.1.er
  a : r.1.a < len
  g : r.2 = true → r.1.er = 0 ∧ (ndR cs (r.1.a * 19)).k = 6
  l : r.2 = false → r.1.er = 0 → (ndR cs (r.1.a * 19)).k ≠ 5 ∧ (ndR cs (r.1.a * 19)).k ≠ 6
theorem path_end {D : I → I → I × Int} {c : I} {cs : List SV} {len : Nat} (K : OkPg cs len) (hD : ∀ i, i < len → (ndR cs (i * 19)).k = 6 → rt (D c (pt ((ndR cs (i * 19)).f 14))).1 = true) :
    ∀ (n : Nat) (p : Pst), p.a < n → p.a < len → Er p.er → rt p.s = true → EndP cs len (pathF KkR D c cs n p)
  | 0, p, h, _, _, _ => absurd h (by omega)
  | n + 1, p, hn, hl, he, hs => by
    have hnd := K.nd p.a hl
    have hd := hD p.a hl
    unfold pathF
    by_cases h0 : p.er = 0
    · rw [decide_eq_true h0, cond_true]
      by_cases h5 : (ndR cs (p.a * 19)).k = 5
      · obtain ⟨⟨a0, a1⟩, b0, b1⟩ := okNd_mix hnd h5
        rw [decide_eq_true h5, cond_true, h0]
        cases decide (p.s.hi.k < ((ndR cs (p.a * 19)).f 15).k)
        · rw [cond_false]
          cases decide (p.s.lo.k < ((ndR cs (p.a * 19)).f 15).k)
          · exact path_end K hD n _ (by show (ndR cs (p.a * 19)).a.toNat < n; omega) (by show (ndR cs (p.a * 19)).a.toNat < len; omega) (onN_er hs (decide_eq_true (Int.le_refl _))) (inb_rt onN_in)
          · exact path_end K hD n _ (by show (ndR cs (p.a * 19)).b.toNat < n; omega) (by show (ndR cs (p.a * 19)).b.toNat < len; omega) (onB_er hs (decide_eq_true (Int.le_refl _))) (inb_rt onB_in)
        · exact path_end K hD n _ (by show (ndR cs (p.a * 19)).b.toNat < n; omega) (by show (ndR cs (p.a * 19)).b.toNat < len; omega) (onB_er hs (decide_eq_true (Int.le_refl _))) (inb_rt onB_in)
      · rw [decide_eq_false h5, cond_false]
        by_cases h6 : (ndR cs (p.a * 19)).k = 6
        · obtain ⟨a0, a1⟩ := okNd_coat hnd h6
          rw [decide_eq_true h6, cond_true]
          cases decide (p.s.hi.k < (D c (pt ((ndR cs (p.a * 19)).f 14))).1.lo.k)
          · rw [cond_false]
            cases decide (p.s.lo.k < (D c (pt ((ndR cs (p.a * 19)).f 14))).1.hi.k)
            · rw [cond_false, h0]
              exact path_end K hD n _ (by show (ndR cs (p.a * 19)).a.toNat < n; omega) (by show (ndR cs (p.a * 19)).a.toNat < len; omega) (onN_er hs (hd h6)) (inb_rt onN_in)
            · exact ⟨he, hl, fun _ => ⟨h0, h6⟩, (fun h => by cases h)⟩
          · exact ⟨he, hl, fun _ => ⟨h0, h6⟩, (fun h => by cases h)⟩
        · rw [decide_eq_false h6, cond_false]
          exact ⟨he, hl, (fun h => by cases h), fun _ _ => ⟨h5, h6⟩⟩
    · rw [decide_eq_false h0, cond_false]
      exact ⟨he, hl, (fun h => by cases h), fun _ h => absurd h h0⟩
theorem fdD_ok {c : I} (hc : InB c bz1) {cs : List SV} {len : Nat} (K : OkPg cs len) : paB PaN.D PaN.dO c cs len = true ∧ ∀ i, i < len → (ndR cs (i * 19)).k = 6 → rt (PaN.D c (pt ((ndR cs (i * 19)).f 14))).1 = true := by
  constructor
  · refine List.all_eq_true.2 fun i hi => ?_
    have hi' := List.mem_range.1 hi
    by_cases h6 : (ndR cs (i * 19)).k = 6
    · obtain ⟨c1, _⟩ := okNd_coatf (K.nd i hi') h6
      obtain ⟨o, o1, o2⟩ := fd_all hc (bn_of c1)
      have e1 : PaN.D c (pt ((ndR cs (i * 19)).f 14)) = (o, 0) := o1
      have e2 : Bu.obsB (PaN.dO c (pt ((ndR cs (i * 19)).f 14))) = true := obsB_of (fd_o hc c1)
      rw [decide_eq_true h6, cond_true, e1, e2]; rfl
    · rw [decide_eq_false h6]; rfl
  · intro i hi h6
    obtain ⟨c1, _⟩ := okNd_coatf (K.nd i hi) h6
    obtain ⟨o, o1, o2⟩ := fd_all hc (bn_of c1)
    have e1 : PaN.D c (pt ((ndR cs (i * 19)).f 14)) = (o, 0) := o1
    rw [e1]; exact o2.rt
def u64P (n : Int) : Prop := 0 ≤ n ∧ n ≤ 18446744073709551615
theorem cosO_ok {c : I} (h : InB c bz1) : ObsOk (cosO c) := by
  have a := h.2.1
  have b := h.1
  have e1 : one64.k = bz1.hi.k := rfl
  have e2 : z64.k = bz1.lo.k := rfl
  exact ob_c (decide_eq_false (by omega)) (ob_c (decide_eq_false (by omega)) (ob_c (inb_rt h) ob_n))
/-- the way of a right program -/
theorem pt_end {c : I} (hc : InB c bz1) {cs : List SV} {len : Nat} (K : OkPg cs len) {u : Int} (hu : u64P u) : EndP cs len (paW PaN c u cs len) := by
  have h1 := K.lo
  exact path_end K (fdD_ok hc K).2 len _ (by show len - 1 < len; omega) (by show len - 1 < len; omega) (.inl rfl) (rt_q (unI_U u hu.1 hu.2).rt)
end Go.Proofs.YtgjohjgmlleebaaGreat
namespace Bu
set_option linter.all false
open Rx Go
theorem cond_rt : ∀ {l : List Bu.Op} {v u : List I}, (∀ a ∈ v, rt a = true) → CondE l v → Chain l v u → ∀ a ∈ u, rt a = true
  | [], v, u, hv, _, hc => by
    have e : u = v := hc
    subst e; exact hv
  | o :: l, v, u, hv, hc, hh => by
    obtain ⟨r, hr, hu⟩ := hh
    have h1 := fact_rt hv hc.1 hr
    exact cond_rt (fun a ha => by
      rcases List.mem_cons.1 ha with rfl | ha
      · exact h1
      · exact hv a ha) (hc.2 r hr h1) hu
theorem keptIn_ {a : I} {l h : F} (hr : rt a = true) (hl : mone64.k ≤ l.k) (hh : h.k ≤ one64.k) (lh : l.k ≤ h.k) : In1 (keptI a l h) := by
  obtain ⟨e1, e2⟩ := keptI_k a l h
  have h1 := of_decide_eq_true hr
  refine ⟨?_, ?_, ?_⟩
  · rw [e1]; omega
  · rw [e2]; omega
  · rw [e1, e2]; omega
theorem oz_k : mone64.k ≤ z64.k ∧ z64.k ≤ one64.k ∧ mone64.k ≤ one64.k := by decide +kernel
theorem line_kept {l : List Bu.Op} {s : List Bool} {v : List I} (hc : chk l s = true) (hf : Flags s v) (hv : ∀ a ∈ v, rt a = true) (h : (evalK KkR l v 0).2 = 0) {p j : Nat} {lo hi : F} (hp : l.reverse[p]? = some (.kept lo hi j)) (hl : mone64.k ≤ lo.k) (hh : hi.k ≤ one64.k) (lh : lo.k ≤ hi.k) :
    In1 (gt (evalK KkR l v 0).1 p) ∧ lo.k ≤ (gt (evalK KkR l v 0).1 p).lo.k := by
  have hr := cond_rt hv (chk_cond hc hf hv) (eval_chain h).2
  have hR := eval_chainR h
  generalize (evalK KkR l v 0).1 = u at hr hR ⊢
  obtain ⟨f, _⟩ := chain_at hR hp
  have e : gt u p = keptI (gt (u.drop (p + 1)) j) lo hi := f
  rw [e]
  have r := gt_rt (fun a ha => hr a (List.mem_of_mem_drop ha)) (v := u.drop (p + 1)) j
  refine ⟨keptIn_ r hl hh lh, ?_⟩
  obtain ⟨e1, _⟩ := keptI_k (gt (u.drop (p + 1)) j) lo hi
  rw [e1]; omega
def drFl_ : List Bool := [true, false, false, true, true, false, false]
theorem dr_chk_ : chk drP1 drFl_ = true ∧ chk drTa drFl_ = true ∧ chk drTb drFl_ = true ∧ chk drA drFl_ = true ∧ chk drB drFl_ = true := by decide +kernel
theorem re_chk : chk reP [false, false, false, false, false, false] = true := by decide +kernel
/-- an alpha that may be -/
structure AlQ (al : I) : Prop where
  lo : minA.k ≤ al.lo.k
  rt : rt al = true
  hi : al.hi.k ≤ one64.k
theorem no_flags {v : List I} : Flags [false, false, false, false, false, false] v := fun i hi => by
  match i, hi with
  | 0, h => exact absurd h (by decide)
  | 1, h => exact absurd h (by decide)
  | 2, h => exact absurd h (by decide)
  | 3, h => exact absurd h (by decide)
  | 4, h => exact absurd h (by decide)
  | 5, h => exact absurd h (by decide)
  | i + 6, h => exact absurd h (by simp)
def V3rt (v : V3) : Prop := rt v.x = true ∧ rt v.y = true ∧ rt v.z = true
structure V3in (v : V3) : Prop where
  x : In1 v.x
  y : In1 v.y
  z : In1 v.z
theorem V3in.rt {v : V3} (h : V3in v) : V3rt v := ⟨irt h.x, irt h.y, irt h.z⟩
theorem DirP.i {v : V3} (h : DirP v) : V3in v := ⟨h.x, h.y, h.zi⟩
theorem re_cases (K : Kk) (v w : V3) {P : V3 → Prop} (hE : Er (reE K v w).2) (hP : (reE K v w).2 = 0 → P ⟨gt (reE K v w).1 2, gt (reE K v w).1 1, gt (reE K v w).1 0⟩) : Er (reR K v w).2 ∧ ((reR K v w).2 = 0 → P (reR K v w).1) := by
  unfold reR
  cases h : neB (reE K v w).2
  · rw [cond_false]
    exact ⟨.inl rfl, fun _ => hP (by unfold neB at h; simpa using h)⟩
  · rw [cond_true]
    refine ⟨hE, fun h0 => ?_⟩
    simp only at h0
    rw [h0] at h; cases h
theorem re_ok {v w : V3} (hv : V3in v) (hw : V3in w) : Er (reR KkR v w).2 ∧ ((reR KkR v w).2 = 0 → V3in (reR KkR v w).1) := by
  have r : ∀ a ∈ [w.z, w.y, w.x, v.z, v.y, v.x], rt a = true := fun a ha => by
    simp only [List.mem_cons, List.not_mem_nil, or_false] at ha
    rcases ha with rfl | rfl | rfl | rfl | rfl | rfl
    · exact irt hw.z
    · exact irt hw.y
    · exact irt hw.x
    · exact irt hv.z
    · exact irt hv.y
    · exact irt hv.x
  obtain ⟨a, b, c⟩ := oz_k
  refine re_cases KkR v w (P := V3in) (eval_er' re_chk no_flags r) fun h0 => ?_
  refine ⟨?_, ?_, ?_⟩
  · show In1 (gt (evalK KkR reP [w.z, w.y, w.x, v.z, v.y, v.x] 0).1 2)
    exact (line_kept re_chk no_flags r h0 (p := 2) (j := 2) rfl (Int.le_refl _) (Int.le_refl _) c).1
  · show In1 (gt (evalK KkR reP [w.z, w.y, w.x, v.z, v.y, v.x] 0).1 1)
    exact (line_kept re_chk no_flags r h0 (p := 1) (j := 2) rfl (Int.le_refl _) (Int.le_refl _) c).1
  · show In1 (gt (evalK KkR reP [w.z, w.y, w.x, v.z, v.y, v.x] 0).1 0)
    exact (line_kept re_chk no_flags r h0 (p := 0) (j := 2) rfl (Int.le_refl _) (Int.le_refl _) c).1
theorem dr_env {v : V3} {al : I} {d e : Int} (hv : DirP v) (ha : AlQ al) (hd : 0 ≤ d ∧ d ≤ 18446744073709551615) : (∀ a ∈ drEnv (KqR atR) v al d e, rt a = true) ∧ Flags drFl_ (drEnv (KqR atR) v al d e) := by
  have hu := unI_U d hd.1 hd.2
  have c := cosM_in (unI e).lo (unI e).hi
  have s := sinM_in (unI e).lo (unI e).hi
  constructor
  · intro a h
    simp only [drEnv, List.mem_cons, List.not_mem_nil, or_false] at h
    rcases h with rfl | rfl | rfl | rfl | rfl | rfl | rfl
    · exact rt_q hu.rt
    · exact irt c
    · exact irt s
    · exact ha.rt
    · exact irt hv.zi
    · exact irt hv.y
    · exact irt hv.x
  · intro i hi
    match i, hi with
    | 0, _ => exact hu.lo
    | 1, h => exact absurd h (by decide)
    | 2, h => exact absurd h (by decide)
    | 3, _ =>
      have h1 := q_le.2 ha.lo
      have h2 : 0 ≤ minA.q := by have : minA.q * 32 = 1 := q_of' (n := 1) (s := 5) (by decide +kernel) rfl; grind
      exact Rat.le_trans h2 h1
    | 4, _ =>
      have h1 := q_le.2 hv.z.1
      have h2 : z64.q = 0 := zero0_q
      show 0 ≤ v.z.lo.q
      have h3 : z64.q ≤ v.z.lo.q := h1
      rw [h2] at h3; exact h3
    | 5, h => exact absurd h (by decide)
    | 6, h => exact absurd h (by decide)
    | i + 7, h => exact absurd h (by simp [drFl_])
theorem drX_c {K : Kk} {p1 p2 : List Bu.Op} {v : List I} {P : V3 → Prop} (h1 : Er (evalK K p1 v 0).2) (h2 : Er (evalK K p2 v 0).2) (hP : (evalK K p2 v 0).2 = 0 → P (drV K p2 v)) : Er (drX K p1 p2 v).2 ∧ ((drX K p1 p2 v).2 = 0 → P (drX K p1 p2 v).1) := by
  unfold drX
  cases e1 : neB (evalK K p1 v 0).2
  · rw [cond_false]
    cases e2 : neB (evalK K p2 v 0).2
    · rw [cond_false]
      exact ⟨.inl rfl, fun _ => hP (by unfold neB at e2; simpa using e2)⟩
    · rw [cond_true]
      refine ⟨h2, fun h0 => ?_⟩
      simp only at h0
      rw [h0] at e2; cases e2
  · rw [cond_true]
    refine ⟨h1, fun h0 => ?_⟩
    simp only at h0
    rw [h0] at e1; cases e1
theorem drR_c {K : Kk} {v : List I} {P : V3 → Prop} (h1 : Er (evalK K drP1 v 0).2) (h2 : Er (evalK K drTa v 0).2) (h3 : Er (evalK K drTb v 0).2) (h4 : Er (evalK K drA v 0).2) (h5 : Er (evalK K drB v 0).2)
    (hA : (evalK K drA v 0).2 = 0 → P (drV K drA v)) (hB : (evalK K drB v 0).2 = 0 → P (drV K drB v)) : Er (drR K v).2 ∧ ((drR K v).2 = 0 → P (drR K v).1) := by
  unfold drR
  cases decide ((drQ K v).hi.k = z64.k)
  · cases decide (z64.k < (drQ K v).lo.k)
    · rw [cond_false, cond_false]
      unfold drN
      cases e1 : neB (evalK K drP1 v 0).2
      · rw [cond_false]
        exact ⟨.inr (.inr rfl), fun h0 => by simp only at h0; exact absurd h0 (by decide)⟩
      · rw [cond_true]
        refine ⟨h1, fun h0 => ?_⟩
        simp only at h0
        rw [h0] at e1; cases e1
    · rw [cond_false, cond_true]
      exact drX_c h3 h5 hB
  · rw [cond_true]
    exact drX_c h2 h4 hA
theorem vd_ok {v : V3} {al : I} {d e : Int} (hv : DirP v) (ha : AlQ al) (hd : 0 ≤ d ∧ d ≤ 18446744073709551615) : Er (drR KkR (drEnv (KqR atR) v al d e)).2 ∧ ((drR KkR (drEnv (KqR atR) v al d e)).2 = 0 → DirP (drR KkR (drEnv (KqR atR) v al d e)).1) := by
  obtain ⟨r, f⟩ := dr_env (e := e) hv ha hd
  obtain ⟨c1, c2, c3, c4, c5⟩ := dr_chk_
  obtain ⟨a, b, c⟩ := oz_k
  generalize drEnv (KqR atR) v al d e = w at r f ⊢
  refine drR_c (P := DirP) (eval_er' c1 f r) (eval_er' c2 f r) (eval_er' c3 f r) (eval_er' c4 f r) (eval_er' c5 f r) (fun h0 => ?_) (fun h0 => ?_)
  · obtain ⟨z1, z2⟩ := line_kept c4 f r h0 (p := 0) (j := 2) rfl a (Int.le_refl _) b
    refine ⟨?_, ?_, ⟨z2, z1.hi, z1.rt⟩⟩
    · show In1 (gt (evalK KkR drA w 0).1 2)
      exact (line_kept c4 f r h0 (p := 2) (j := 2) rfl (Int.le_refl _) (Int.le_refl _) c).1
    · show In1 (gt (evalK KkR drA w 0).1 1)
      exact (line_kept c4 f r h0 (p := 1) (j := 2) rfl (Int.le_refl _) (Int.le_refl _) c).1
  · obtain ⟨z1, z2⟩ := line_kept c5 f r h0 (p := 0) (j := 2) rfl a (Int.le_refl _) b
    refine ⟨?_, ?_, ⟨z2, z1.hi, z1.rt⟩⟩
    · show In1 (gt (evalK KkR drB w 0).1 2)
      exact (line_kept c5 f r h0 (p := 2) (j := 2) rfl (Int.le_refl _) (Int.le_refl _) c).1
    · show In1 (gt (evalK KkR drB w 0).1 1)
      exact (line_kept c5 f r h0 (p := 1) (j := 2) rfl (Int.le_refl _) (Int.le_refl _) c).1
end Bu
namespace Go.Proofs.YtgjohjgmlleebaaGreat
set_option linter.all false
open Go.RowKit Bu Rx
theorem cos_rt {u1 u2 : Int} (h : u64P u1) : V3rt (dwCos DwN u1 u2) := by
  obtain ⟨D, hD⟩ := draw_ok (b := u2) h.1 h.2
  refine ⟨?_, ?_, ?_⟩
  · show rt (keptI (dX (KqR atR) u1 u2).1 mone64 one64) = true
    rw [hD.ex]; exact keptI_rt hD.mx.rt
  · show rt (keptI (dY (KqR atR) u1 u2).1 mone64 one64) = true
    rw [hD.ey]; exact keptI_rt hD.my.rt
  · show rt (keptI (dZ (KqR atR) u1 u2).1 (toF 0) one64) = true
    rw [hD.ez]; exact keptI_rt (rt_q hD.zu.rt)
theorem leaf_al {nd : Nd} {p : Int} (h : okNd nd p = true) (h5 : nd.k ≠ 5) (h6 : nd.k ≠ 6) (h1 : nd.k ≠ 1) (h2 : nd.k ≠ 2) : AlQ (pt (nd.f 13)) := by
  have o := nd_leaf h h5 h6
  have r : Rn minA one64 (nd.f 13) := by
    rcases rt_kind o with e | e | e | e
    · exact absurd e h1
    · exact absurd e h2
    · rw [e] at o; exact (rt3_in o).1
    · rw [e] at o; exact (rt4_in o (c := 0) (by decide)).1
  exact ⟨r.1, decide_eq_true (Int.le_refl _), r.2⟩
theorem in1O_ok {a : I} (h : In1 a) : ObsOk (in1O a) := ob_c (decide_eq_true h.hi) (ob_c (decide_eq_true h.lo) (ob_c (irt h) ob_n))
theorem reO_ok {v w : V3} (hv : V3in v) (hw : V3in w) : ObsOk (reO v w) := ob_a (in1O_ok hw.z) (ob_a (in1O_ok hw.y) (ob_a (in1O_ok hw.x) (ob_a (in1O_ok hv.z) (ob_a (in1O_ok hv.y) (in1O_ok hv.x)))))
theorem dirQ {v : V3} (h : DirP v) : ObsOk (dirO v) := by
  have z1 : z64.k ≤ v.z.lo.k := h.z.1
  have z2 : v.z.hi.k ≤ one64.k := h.z.2.1
  exact ob_c (decide_eq_true z2) (ob_c (decide_eq_true z1) (ob_c (decide_eq_true h.y.hi) (ob_c (decide_eq_true h.y.lo) (ob_c (decide_eq_true h.x.hi) (ob_c (decide_eq_true h.x.lo) (ob_c (inb_rt h.z) (ob_c (irt h.y) (ob_c (irt h.x) ob_n))))))))
theorem uP {u : Int} (h : u64P u) : decide (0 ≤ u ∧ u ≤ 18446744073709551615) = true := decide_eq_true h
theorem bx_ok {nd : Nd} {p : Int} (hnd : okNd nd p = true) (h5 : nd.k ≠ 5) (h6 : nd.k ≠ 6) {v : V3} (hv : DirP v) {u1 u2 : Int} (k1 : u64P u1) (k2 : u64P u2) :
    ObsOk (bxO DwN nd v u1 u2) ∧ Er (bxF DwN nd v u1 u2).2 ∧ ((bxF DwN nd v u1 u2).2 = 0 → V3rt (bxF DwN nd v u1 u2).1) := by
  unfold bxO bxF
  by_cases e : nd.k = 1 ∨ nd.k = 2
  · have ee : (decide (nd.k = 1) || decide (nd.k = 2)) = true := by rcases e with e | e <;> rw [decide_eq_true e] <;> simp
    rw [ee, cond_true, cond_true]
    exact ⟨ob_c (uP k1) (ob_c (uP k2) ob_n), .inl rfl, fun _ => cos_rt k1⟩
  · have ee : (decide (nd.k = 1) || decide (nd.k = 2)) = false := by rw [decide_eq_false (fun h => e (.inl h)), decide_eq_false (fun h => e (.inr h))]; rfl
    rw [ee, cond_false, cond_false]
    have al := leaf_al hnd h5 h6 (fun h => e (.inl h)) (fun h => e (.inr h))
    have hO : ObsOk (DwN.vo v (pt (nd.f 13)) u1 u2 ++ [(decide ((nd.f 13).k ≤ one64.k), true)]) := by
      have a1 : (nd.f 13).k ≤ one64.k := al.hi
      have a2 : minA.k ≤ (nd.f 13).k := al.lo
      refine ob_a ?_ (ob_c (decide_eq_true a1) ob_n)
      exact ob_a (ob_a (ob_c (uP k1) (ob_c (unI_in u2 k2.1 k2.2) (ob_c (uP k2) ob_n))) (dirQ hv)) (ob_c (decide_eq_true a1) (ob_c (decide_eq_true a2) (ob_c al.rt ob_n)))
    have hd := vd_ok (e := u2) hv al k1
    have hd' : Er (dwN DwN v (nd.f 13) u1 u2).2 ∧ ((dwN DwN v (nd.f 13) u1 u2).2 = 0 → DirP (dwN DwN v (nd.f 13) u1 u2).1) := hd
    clear hd
    generalize dwN DwN v (nd.f 13) u1 u2 = n at hd' ⊢
    obtain ⟨d1, d2⟩ := hd'
    by_cases g : n.2 = 0
    · rw [decide_eq_true g, cond_true, cond_true]
      have r := re_ok hv.i (d2 g).i
      have r' : Er (DwN.re v n.1).2 ∧ ((DwN.re v n.1).2 = 0 → V3in (DwN.re v n.1).1) := r
      exact ⟨ob_a hO (reO_ok hv.i (d2 g).i), r'.1, fun h => (r'.2 h).rt⟩
    · rw [decide_eq_false g, cond_false, cond_false]
      exact ⟨ob_a hO ob_n, d1, fun h => absurd h g⟩
theorem rt3_ok {b : V3} (h : V3rt b) : dwMp DwN b = true := by
  show rt3 b.x.lo b.x.hi b.y.lo b.y.hi b.z.lo b.z.hi = true
  have h1 : rt ⟨b.x.lo, b.x.hi⟩ = true := h.1
  have h2 : rt ⟨b.y.lo, b.y.hi⟩ = true := h.2.1
  have h3 : rt ⟨b.z.lo, b.z.hi⟩ = true := h.2.2
  unfold rt3; rw [h1, h2, h3]; rfl
def InK (a : I) (y : F) : Prop := a.lo.k ≤ y.k ∧ y.k ≤ a.hi.k
theorem mid_in_ {a : I} (h : rt a = true) : InK a (midI a.lo a.hi) := by
  obtain ⟨_, _, _, h1, h2⟩ := mid_no (a := a.lo) (b := a.hi) h
  exact ⟨q_le.1 h1, q_le.1 h2⟩
theorem mid3 {b : V3} (h : V3rt b) : InK b.x (dwMid DwN b).1 ∧ InK b.y (dwMid DwN b).2.1 ∧ InK b.z (dwMid DwN b).2.2 := ⟨mid_in_ h.1, mid_in_ h.2.1, mid_in_ h.2.2⟩
/-- what is drawn of a right program, from above the horizon -/
structure DwP_ (cs : List SV) (len : Nat) (x y z : F) (u0 : Int) (r : DwR) : Prop where
  er : Er r.e
  no : r.e ≠ 0 → r = dwZ r.e
  a : r.e = 0 → 0 ≤ r.a ∧ r.a < len ∧ r.a = (dwP DwN cs len x y z u0).a ∧ r.s = (dwP DwN cs len x y z u0).s
  m : r.e = 0 → (dwP DwN cs len x y z u0).g = true → r = ⟨1, (x.neg, y.neg, z), dwMir DwN x y z, (dwP DwN cs len x y z u0).a, (dwP DwN cs len x y z u0).s, 0⟩ ∧ (ndR cs (r.a.toNat * 19)).k = 6
  l : r.e = 0 → (dwP DwN cs len x y z u0).g = false → (ndR cs (r.a.toNat * 19)).k ≠ 5 ∧ (ndR cs (r.a.toNat * 19)).k ≠ 6 ∧ ((r.k = 0 ∧ r.p = z3 ∧ r.b = zV) ∨ (r.k = 2 ∧ unB r.p.1 r.p.2.1 r.p.2.2 = true ∧ z64.k < r.p.2.2.k ∧ InK r.b.x r.p.1 ∧ InK r.b.y r.p.2.1 ∧ InK r.b.z r.p.2.2))
theorem pa_res {cs : List SV} {len : Nat} {r : Pst × Bool} (h : EndP cs len r) : Er (paRes r).e ∧ ((paRes r).e ≠ 0 → (paRes r).g = false) ∧ ((paRes r).e = 0 → 0 ≤ (paRes r).a ∧ (paRes r).a < len ∧ ((paRes r).g = true → (ndR cs ((paRes r).a.toNat * 19)).k = 6) ∧ ((paRes r).g = false → (ndR cs ((paRes r).a.toNat * 19)).k ≠ 5 ∧ (ndR cs ((paRes r).a.toNat * 19)).k ≠ 6)) := by
  unfold paRes
  by_cases he : r.1.er = 0
  · rw [decide_eq_true he, cond_true]
    have ha := h.a
    exact ⟨.inl rfl, fun h => absurd rfl h, fun _ => ⟨by show (0 : Int) ≤ (r.1.a : Int); omega, by show (r.1.a : Int) < len; omega, fun g => (h.g g).2, fun g => h.l g he⟩⟩
  · rw [decide_eq_false he, cond_false]
    exact ⟨h.er, fun _ => rfl, fun h => absurd h he⟩
theorem dw_ok {cs : List SV} {len : Nat} (hl : cs.length = len * 19) (hok : okPg cs len = true) {x y z : F} (hB : unB x y z = true) (hz : z64.k < z.k) (hv : DirP (unV KkR x y z)) {u0 u1 u2 : Int} (k0 : u64P u0) (k1 : u64P u1) (k2 : u64P u2) :
    ObsOk (dwOb DwN cs len x y z u0 u1 u2) ∧ DwP_ cs len x y z u0 (dwF DwN cs len x y z u0 u1 u2) := by
  have K := okPg_ok hok
  have hb : DwN.ub x y z = true := hB
  have gz : ¬ z.k ≤ z64.k := by omega
  have E := pa_res (pt_end hv.z K k0)
  have EP : dwP DwN cs len x y z u0 = paRes (paW PaN (unV KkR x y z).z u0 cs len) := rfl
  rw [← EP] at E
  clear EP
  have hbx : ∀ {nd : Nd} {p : Int}, okNd nd p = true → nd.k ≠ 5 → nd.k ≠ 6 → ObsOk (bxO DwN nd (DwN.un x y z) u1 u2) ∧ Er (bxF DwN nd (DwN.un x y z) u1 u2).2 ∧ ((bxF DwN nd (DwN.un x y z) u1 u2).2 = 0 → V3rt (bxF DwN nd (DwN.un x y z) u1 u2).1) := fun a b c => bx_ok a b c hv k1 k2
  unfold dwOb dwF
  rw [hb, cond_true, cond_true, decide_eq_false gz, cond_false, cond_false]
  obtain ⟨e1, e2, e3⟩ := E
  have hpre : ∀ {o : Obs}, ObsOk o → ObsOk ((decide (cs.length = len * 19), true) :: (DwN.T.o cs len, true) :: (DwN.T.b (DwN.un x y z).z cs len, true) :: (DwN.T.u u0, true) :: (cosO (DwN.un x y z).z ++ o)) := fun ho => ob_c (decide_eq_true hl) (ob_c hok (ob_c (fdD_ok hv.z K).1 (ob_c (uP k0) (ob_a (cosO_ok hv.z) ho))))
  generalize hP : dwP DwN cs len x y z u0 = P at e1 e2 e3 ⊢
  by_cases ge : P.e = 0
  · obtain ⟨a0, a1, ag, al⟩ := e3 ge
    rw [decide_eq_true ge, cond_true, cond_true]
    cases gg : P.g
    · rw [cond_false, cond_false]
      obtain ⟨l5, l6⟩ := al gg
      have hnd := K.nd P.a.toNat (by omega)
      obtain ⟨o1, o2, o3⟩ := hbx hnd l5 l6
      generalize bxF DwN (ndR cs (P.a.toNat * 19)) (DwN.un x y z) u1 u2 = b at o2 o3 ⊢
      by_cases gb : b.2 = 0
      · rw [decide_eq_true gb, cond_true, cond_true]
        refine ⟨hpre (ob_c (decide_eq_true ⟨a0, a1⟩) (ob_a o1 (ob_c (rt3_ok (o3 gb)) ob_n))), ?_⟩
        obtain ⟨m1, m2, m3⟩ := mid3 (o3 gb)
        unfold dwLf
        cases gw : DwN.ub (dwMid DwN b.1).1 (dwMid DwN b.1).2.1 (dwMid DwN b.1).2.2 && !decide ((dwMid DwN b.1).2.2.k ≤ z64.k)
        · rw [cond_false]
          exact ⟨.inl rfl, fun h => absurd rfl h, fun _ => ⟨a0, a1, by rw [hP], by rw [hP]⟩, (fun _ h => by rw [hP, gg] at h; cases h), fun _ _ => ⟨l5, l6, .inl ⟨rfl, rfl, rfl⟩⟩⟩
        · rw [cond_true]
          rw [Bool.and_eq_true] at gw
          obtain ⟨w1, w2⟩ := gw
          have w3 : ¬ (dwMid DwN b.1).2.2.k ≤ z64.k := by simpa using w2
          exact ⟨.inl rfl, fun h => absurd rfl h, fun _ => ⟨a0, a1, by rw [hP], by rw [hP]⟩, (fun _ h => by rw [hP, gg] at h; cases h), fun _ _ => ⟨l5, l6, .inr ⟨rfl, w1, by show z64.k < (dwMid DwN b.1).2.2.k; omega, m1, m2, m3⟩⟩⟩
      · rw [decide_eq_false gb, cond_false, cond_false]
        exact ⟨hpre (ob_c (decide_eq_true ⟨a0, a1⟩) (ob_a o1 ob_n)), ⟨o2, fun _ => rfl, fun h => absurd h gb, fun h => absurd h gb, fun h => absurd h gb⟩⟩
    · rw [cond_true, cond_true]
      exact ⟨hpre ob_n, ⟨.inl rfl, fun h => absurd rfl h, fun _ => ⟨a0, a1, by rw [hP], by rw [hP]⟩, fun _ _ => ⟨by rw [hP], ag gg⟩, (fun _ h => by rw [hP, gg] at h; cases h)⟩⟩
  · rw [decide_eq_false ge, cond_false, cond_false]
    exact ⟨hpre (ob_c (e2 ge) ob_n), ⟨e1, fun _ => rfl, fun h => absurd h ge, fun h => absurd h ge, fun h => absurd h ge⟩⟩
end Go.Proofs.YtgjohjgmlleebaaGreat
namespace Bu
set_option linter.all false
open Rx Go
def e53_ : F := toF 4368491638549381120
def b53_ : F := toF 4607182418800017407
def g53_ : F := toF 4845873199050653696
theorem e53_q : e53_.q * 9007199254740992 = 1 := q_of' (n := 1) (s := 53) (by decide +kernel) rfl
theorem b53_q : b53_.q * 9007199254740992 = 9007199254740991 := q_of' (n := 9007199254740991) (s := 53) (by decide +kernel) rfl
theorem g53_q : g53_.q = 9007199254740992 := q_int (x := g53_) (n := 9007199254740992) (by decide +kernel)
theorem b53_k : b53_.k + 1 = one64.k := by decide +kernel
theorem quo_le {a b m : Rat} (hb : 0 < b) (h : a ≤ m * b) : a / b ≤ m := by
  rw [Rat.div_def]
  have hi := Rat.inv_pos.2 hb
  have h1 := Rat.mul_le_mul_of_nonneg_right h (Rat.le_of_lt hi)
  rw [Rat.mul_assoc, Rat.mul_inv_cancel _ (by grind), Rat.mul_one] at h1
  exact h1
theorem quo_nn {a b : Rat} (ha : 0 ≤ a) (hb : 0 < b) : 0 ≤ a / b := by
  rw [Rat.div_def]; exact Rat.mul_nonneg ha (Rat.le_of_lt (Rat.inv_pos.2 hb))
theorem div_fin {s t : I} {d : F} (rs : rt s = true) (rt_ : rt t = true) (s0 : 0 ≤ s.lo.q) (t0 : 0 < t.lo.q) (hd : s.hi.q ≤ d.q * t.lo.q) : ∃ r, KkR.div 0 s t = (r, 0) ∧ 0 ≤ r.lo.q ∧ r.hi.q ≤ d.q := by
  have l := rt_le rs
  have m := rt_le rt_
  have hz : hasB t F.zero = false := by
    unfold hasB
    rw [rt_, Bool.true_and, Bool.and_eq_false_iff]
    left
    refine decide_eq_false fun h => ?_
    have h1 := q_le.2 h
    rw [q_zero] at h1
    grind
  have t1 : 0 < t.hi.q := by grind
  have d0 : 0 ≤ d.q := by
    rcases Rat.le_total (a := 0) (b := d.q) with h | h
    · exact h
    · have := Rat.mul_nonneg (show 0 ≤ -d.q by grind) (Rat.le_of_lt t0)
      have e : s.hi.q = 0 := by grind
      have e2 : d.q * t.lo.q = 0 := by grind
      rcases Rat.mul_eq_zero.1 e2 with h3 | h3
      · rw [h3]; exact Rat.le_refl
      · rw [h3] at t0; exact absurd t0 Rat.lt_irrefl
  have p1 := Rat.mul_nonneg d0 (show 0 ≤ t.hi.q - t.lo.q by grind)
  have q0 : F.zero.q = 0 := q_zero
  obtain ⟨r, e, ar, h1, h2⟩ := all_has (div_four rt_ hz) (c := F.zero) (d := d) (by rw [q0]; exact quo_nn s0 t0) (by rw [q0]; exact quo_nn s0 t1) (by rw [q0]; exact quo_nn (by grind) t0) (by rw [q0]; exact quo_nn (by grind) t1)
    (quo_le t0 (by grind)) (quo_le t1 (by grind)) (quo_le t0 hd) (quo_le t1 (by grind))
  refine ⟨r, ?_, by rw [q0] at h1; exact h1, h2⟩
  show cDiv pDiv 0 s t = _
  unfold cDiv
  rw [hz, cond_false, e, ask_ok (by rw [rs, rt_]; rfl) rfl]
theorem onB_0 {s : I} {w : F} (rs : rt s = true) (s0 : 0 ≤ s.lo.q) (h1 : s.lo.k < w.k) (h2 : s.hi.k ≤ w.k) : (onB KkR 0 s (pt w)).2 = 0 := by
  have w0 : 0 < w.q := by have := q_lt.2 h1; grind
  have w1 := q_le.2 h2
  obtain ⟨r, e, _⟩ := div_fin (d := one64) rs (t := pt w) (decide_eq_true (Int.le_refl _)) s0 w0 (by rw [one_q]; show s.hi.q ≤ 1 * w.q; grind)
  unfold onB
  rw [e]
theorem sub_has {s t : I} {c d : F} (rs : rt s = true) (rt_ : rt t = true) (h1 : c.q ≤ s.lo.q - t.hi.q) (h2 : s.hi.q - t.lo.q ≤ d.q) : ∃ r, KkR.sub 0 s t = (r, 0) ∧ c.q ≤ r.lo.q ∧ r.hi.q ≤ d.q ∧ rt r = true := by
  have l := rt_le rs
  have m := rt_le rt_
  obtain ⟨p1, p2⟩ := (dSub_RD s.lo t.hi).has h1
  obtain ⟨q1, q2⟩ := (dSub_RU s.hi t.lo).has h2
  have dn := (dSub_RD s.lo t.hi).ok p1
  have up := (dSub_RU s.hi t.lo).ok q1
  refine ⟨⟨(dSub false s.lo t.hi).1, (dSub true s.hi t.lo).1⟩, ?_, p2, q2, ?_⟩
  · show cSub dSub 0 s t = _
    unfold cSub
    have e : endsI (dSub false s.lo t.hi) (dSub true s.hi t.lo) = (⟨(dSub false s.lo t.hi).1, (dSub true s.hi t.lo).1⟩, 0) := by
      unfold endsI
      rw [p1, q1]; rfl
    rw [e, ask_ok (by rw [rs, rt_]; rfl) rfl]
  · have a := dn.le; have b := up.ge
    exact rt_q (by show (dSub false s.lo t.hi).1.q ≤ (dSub true s.hi t.lo).1.q; grind)
theorem onN_0 {s t : I} (rs : rt s = true) (rt_ : rt t = true) (s0 : 0 ≤ s.lo.q) (s1 : s.hi.q ≤ 1) (t0 : 0 ≤ t.lo.q) (h : t.hi.k ≤ s.lo.k) (hl : s.lo.k < one64.k) : (onN KkR 0 s t).2 = 0 := by
  have m := rt_le rt_
  have l := rt_le rs
  have h1 := q_le.2 h
  have q0 : F.zero.q = 0 := q_zero
  have e53 := e53_q
  have b53 := b53_q
  have hb : t.hi.q ≤ b53_.q := q_le.2 (by have := b53_k; omega)
  have o1 : (pt one64).lo.q = 1 := one_q
  have o2 : (pt one64).hi.q = 1 := one_q
  obtain ⟨a, ea, a0, a1, ra⟩ := sub_has (c := F.zero) (d := one64) rs rt_ (by rw [q0]; grind) (by rw [one_q]; grind)
  obtain ⟨b, eb, b0, b1, rb⟩ := sub_has (s := pt one64) (c := e53_) (d := one64) (decide_eq_true (Int.le_refl _)) rt_ (by rw [o1]; grind) (by rw [o2, one_q]; grind)
  rw [q0] at a0
  rw [one_q] at a1 b1
  have g := g53_q
  have b0' : 0 < b.lo.q := by grind
  obtain ⟨r, e, _⟩ := div_fin (d := g53_) ra rb a0 b0' (by rw [g]; grind)
  unfold onN
  simp only [ea, eb, e]
theorem unI_near (n : Int) (h0 : 0 ≤ n) (h1 : n ≤ 18446744073709551615) : (unI n).lo.k ≤ (unI n).hi.k ∧ (unI n).hi.k ≤ (unI n).lo.k + 1 ∧ (unI n).lo.k < one64.k := by
  have hn : n.toNat < 18446744073709551616 := by omega
  have hl : (unI n).lo.k < one64.k := by
    have h := unitLo_lt n.toNat hn
    have e := one64_k
    show (unitLo n.toNat).k < one64.k
    omega
  by_cases c : n.toNat % 2 ^ unitCut n.toNat = 0
  · have e : (unI n).hi = (unI n).lo := by
      show (unitOf n.toNat).hi = unitLo n.toNat
      unfold unitOf; simp only [if_pos c]
    rw [e]
    exact ⟨by omega, by omega, hl⟩
  · have e : (unI n).hi = (nextF (unitLo n.toNat) true).1 := by
      show (unitOf n.toNat).hi = _
      unfold unitOf; simp only [if_neg c]
    have hk := (nextF_up (unitLo n.toNat) (unitLo_lt n.toNat hn)).1
    have hk2 : (unI n).hi.k = (unI n).lo.k + 1 := by rw [e]; exact hk
    exact ⟨by omega, by omega, hl⟩
end Bu
namespace Go.Proofs.YtgjohjgmlleebaaGreat
set_option linter.all false
open Go.RowKit Bu Rx
theorem pf_leaf {c : I} {cs : List SV} {n : Nat} {p : Pst} (h0 : p.er = 0) (h5 : (ndR cs (p.a * 19)).k ≠ 5) (h6 : (ndR cs (p.a * 19)).k ≠ 6) : pathF KkR PaN.D c cs (n + 1) p = (p, false) := by
  unfold pathF
  rw [decide_eq_true h0, cond_true, decide_eq_false h5, decide_eq_false h6, cond_false, cond_false]
/-- of a mix of a leaf with itself it comes to that -/
theorem pf_mix {c : I} {cs : List SV} {n : Nat} {s : I} {sure : Bool} {w : F} (h5 : (ndR cs (1 * 19)).k = 5) (ha : (ndR cs (1 * 19)).a = 0) (hb : (ndR cs (1 * 19)).b = 0) (hw : (ndR cs (1 * 19)).f 15 = w) (l5 : (ndR cs (0 * 19)).k ≠ 5) (l6 : (ndR cs (0 * 19)).k ≠ 6)
    (w0 : z64.k ≤ w.k ∧ w.k ≤ one64.k) (rs : rt s = true) (s0 : 0 ≤ s.lo.q) (s1 : s.hi.q ≤ 1) (sl : s.lo.k < one64.k) (sn : s.hi.k ≤ s.lo.k + 1) : ∃ s' u', pathF KkR PaN.D c cs (n + 2) ⟨1, s, sure, 0⟩ = (⟨0, s', u', 0⟩, false) := by
  have e0 : (0 : Int).toNat = 0 := rfl
  have wq0 := q_le.2 w0.1
  rw [show z64.q = 0 from zero0_q] at wq0
  unfold pathF
  rw [show decide ((⟨1, s, sure, 0⟩ : Pst).er = 0) = true from rfl, cond_true]
  simp only [decide_eq_true h5, cond_true, ha, hb, hw, e0]
  by_cases g1 : s.hi.k < w.k
  · have rr := of_decide_eq_true rs
    have hB := onB_0 (w := w) rs s0 (by omega) (by omega)
    rw [decide_eq_true g1, cond_true, hB]
    exact ⟨_, _, pf_leaf rfl l5 l6⟩
  · rw [decide_eq_false g1, cond_false]
    by_cases g2 : s.lo.k < w.k
    · have hB := onB_0 (w := w) rs s0 g2 (by omega)
      rw [decide_eq_true g2, cond_true, hB]
      exact ⟨_, _, pf_leaf rfl l5 l6⟩
    · have hN := onN_0 (t := pt w) rs (decide_eq_true (Int.le_refl _)) s0 s1 wq0 (by show w.k ≤ s.lo.k; omega) sl
      rw [decide_eq_false g2, cond_false, hN]
      exact ⟨_, _, pf_leaf rfl l5 l6⟩
theorem okPg_dl (a : U8) {w : Int} (hw : wN32 w = true) : okPg (dlMx NprR a w) 2 = true := okPg_mk rfl (by decide) (by decide) fun i hi => by
  rcases (by omega : i = 0 ∨ i = 1) with rfl | rfl
  · exact okAt_n (by kernel_rfl) (n := leNd a) (by kernel_rfl) (okNd_le a _)
  · exact okAt_n (by kernel_rfl) (n := ⟨5, ndM z64 z64 z64 z64 z64 z64 z64 z64 z64 z64 z64 z64 z64 z64 z64 (frT w), 0, 0⟩) (by kernel_rfl) (okNd_5 (fr_rn hw) (by decide) (by decide) (by decide) (by decide))
theorem okPg_l1 (a : U8) : okPg (leC NprR a) 1 = true := okPg_mk rfl (by decide) (by decide) fun i hi => by
  obtain rfl : i = 0 := by omega
  exact okAt_n (by kernel_rfl) (n := leNd a) (by kernel_rfl) (okNd_le a _)
end Go.Proofs.YtgjohjgmlleebaaGreat
namespace Go.Proofs.YtgjohjgmlleebaaGreat
set_option linter.all false
open Go.RowKit Bu Rx
theorem dwF_leaf {cs : List SV} {len : Nat} {x y z : F} {u0 u1 u2 : Int} {nd : Nd} {P : PaR} (hB : unB x y z = true) (hz : z64.k < z.k) (hP : dwP DwN cs len x y z u0 = P) (he : P.e = 0) (hg : P.g = false) (hn : ndR cs (P.a.toNat * 19) = nd) :
    dwF DwN cs len x y z u0 u1 u2 = bif decide ((bxF DwN nd (unV KkR x y z) u1 u2).2 = 0) then dwLf DwN P (bxF DwN nd (unV KkR x y z) u1 u2).1 else dwZ (bxF DwN nd (unV KkR x y z) u1 u2).2 := by
  have hb : DwN.ub x y z = true := hB
  unfold dwF
  rw [hb, cond_true, decide_eq_false (show ¬ z.k ≤ z64.k by omega), cond_false, hP, decide_eq_true he, cond_true, hg, cond_false, hn]
  rfl
theorem lf_eq {P Q : PaR} {b : V3} : (dwLf DwN P b).k = (dwLf DwN Q b).k ∧ (dwLf DwN P b).p = (dwLf DwN Q b).p ∧ (dwLf DwN P b).b = (dwLf DwN Q b).b ∧ (dwLf DwN P b).a = P.a ∧ (dwLf DwN P b).s = P.s ∧ (dwLf DwN P b).e = 0 := by
  unfold dwLf
  cases DwN.ub (dwMid DwN b).1 (dwMid DwN b).2.1 (dwMid DwN b).2.2 && !decide ((dwMid DwN b).2.2.k ≤ z64.k) <;> exact ⟨rfl, rfl, rfl, rfl, rfl, rfl⟩
theorem dl_path1 (a : U8) (c : I) (u : Int) : paRes (paW PaN c u (leC NprR a) 1) = ⟨0, false, true, 0⟩ := by
  obtain ⟨l5, l6⟩ := le_no a
  have hn : ndR (leC NprR a) (0 * 19) = leNd a := by kernel_rfl
  have h : paW PaN c u (leC NprR a) 1 = (⟨0, unI u, true, 0⟩, false) := pf_leaf (p := ⟨0, unI u, true, 0⟩) rfl (by show (ndR (leC NprR a) (0 * 19)).k ≠ 5; rw [hn]; exact l5) (by show (ndR (leC NprR a) (0 * 19)).k ≠ 6; rw [hn]; exact l6)
  rw [h]; rfl
theorem dl_path2 (a : U8) {w : Int} (hw : wN32 w = true) (c : I) {u : Int} (hu : u64P u) : ∃ t, paRes (paW PaN c u (dlMx NprR a w) 2) = ⟨0, false, t, 0⟩ := by
  obtain ⟨l5, l6⟩ := le_no a
  have hn : ndR (dlMx NprR a w) (0 * 19) = leNd a := by kernel_rfl
  have hm : ndR (dlMx NprR a w) (1 * 19) = ⟨5, ndM z64 z64 z64 z64 z64 z64 z64 z64 z64 z64 z64 z64 z64 z64 z64 (frT w), 0, 0⟩ := by kernel_rfl
  have hU := unI_U u hu.1 hu.2
  obtain ⟨n1, n2, n3⟩ := unI_near u hu.1 hu.2
  obtain ⟨s', u', h⟩ := pf_mix (c := c) (cs := dlMx NprR a w) (n := 0) (s := unI u) (sure := true) (w := frT w) (by rw [hm]) (by rw [hm]) (by rw [hm]) (by rw [hm]; rfl) (by rw [hn]; exact l5) (by rw [hn]; exact l6) (rn_one (fr_rn hw)) (rt_q hU.rt) hU.lo hU.hi n3 n2
  have h' : paW PaN c u (dlMx NprR a w) 2 = (⟨0, s', u', 0⟩, false) := h
  exact ⟨u', by rw [h']; rfl⟩
theorem eqIv_rr (a : I) : eqIv a a = true := by unfold eqIv; rw [decide_eq_true rfl, decide_eq_true rfl]; rfl
theorem eqV3_r (a : V3) : eqV3 a a = true := by unfold eqV3; rw [eqIv_rr, eqIv_rr, eqIv_rr]; rfl
theorem eqF3_r (p : F × F × F) : eqF3 p p = true := by unfold eqF3; rw [decide_eq_true rfl, decide_eq_true rfl, decide_eq_true rfl]; rfl
theorem oracleLfd : OracleOk Tryz.prog (OLf_ NprR DsR) := .cons le8G.of (.cons frqG.of (.cons bwG.of (.cons dwOG (.cons awake23G.of (.nil _)))))
theorem dl_all {a : U8} {w x y z u0 u1 u2 : Int} (ha : a.ok = true) (hw : wN32 w = true) (hx : wN32 x = true) (hy : wN32 y = true) (hz : wN32 z = true) (k0 : u64P u0) (k1 : u64P u1) (k2 : u64P u2) :
    ∃ d ob, dlRn NprR DsR a w x y z u0 u1 u2 d = some (.b true, some [], ob) ∧ ObsOk ob := by
  have hv : OneP (unV KkR (bwF mone64 one64 x) (bwF mone64 one64 y) (bwF d64 one64 z)) := un_ok bwN1 bwN1 bwN2.1 bwN2.2
  have hB : unB (bwF mone64 one64 x) (bwF mone64 one64 y) (bwF d64 one64 z) = true := un_B bwN1 bwN1 bwN2.1 bwN2.2
  have hZ : z64.k < (bwF d64 one64 z).k := by have := of_decide_eq_false (bw_up z); omega
  obtain ⟨o1, p1⟩ := dw_ok (cs := leC NprR a) (len := 1) rfl (okPg_l1 a) hB hZ (dirP_of hv) k0 k1 k2
  obtain ⟨o2, p2⟩ := dw_ok (cs := dlMx NprR a w) (len := 2) rfl (okPg_dl a hw) hB hZ (dirP_of hv) k0 k1 k2
  have eP1 : dwP DwN (leC NprR a) 1 (bwF mone64 one64 x) (bwF mone64 one64 y) (bwF d64 one64 z) u0 = ⟨0, false, true, 0⟩ := dl_path1 a _ u0
  obtain ⟨t, ht⟩ := dl_path2 a hw (unV KkR (bwF mone64 one64 x) (bwF mone64 one64 y) (bwF d64 one64 z)).z k0
  have eP2 : dwP DwN (dlMx NprR a w) 2 (bwF mone64 one64 x) (bwF mone64 one64 y) (bwF d64 one64 z) u0 = ⟨0, false, t, 0⟩ := ht
  have e1 := dwF_leaf (u1 := u1) (u2 := u2) (nd := leNd a) hB hZ eP1 rfl rfl (by kernel_rfl)
  have e2 := dwF_leaf (u1 := u1) (u2 := u2) (nd := leNd a) hB hZ eP2 rfl rfl (by kernel_rfl)
  have q1 := p1.er
  rw [e1] at q1
  clear p1 p2
  have eA : dlA NprR DsR a x y z u0 u1 u2 = dwF DwN (leC NprR a) 1 (bwF mone64 one64 x) (bwF mone64 one64 y) (bwF d64 one64 z) u0 u1 u2 := rfl
  have eB : dlB NprR DsR a w x y z u0 u1 u2 = dwF DwN (dlMx NprR a w) 2 (bwF mone64 one64 x) (bwF mone64 one64 y) (bwF d64 one64 z) u0 u1 u2 := rfl
  rw [e1] at eA
  rw [e2] at eB
  generalize bxF DwN (leNd a) (unV KkR (bwF mone64 one64 x) (bwF mone64 one64 y) (bwF d64 one64 z)) u1 u2 = b at eA eB q1
  have tl : ∀ {s t : Bool}, (dlA NprR DsR a x y z u0 u1 u2).s = s → (dlB NprR DsR a w x y z u0 u1 u2).s = t → ObsOk (dlTl NprR DsR a w x y z u0 u1 u2 s t) := fun hs ht => ob_a (ob_a o2 (ob_c ht ob_n)) (ob_a (ob_c hw ob_n) (ob_a (ob_a o1 (ob_c hs ob_n)) (ob_a (dirU_ok hx hy hz) (ob_c ha ob_n))))
  by_cases gb : b.2 = 0
  · rw [decide_eq_true gb, cond_true] at eA eB
    obtain ⟨f1, f2, f3, f4, f5, f6⟩ := lf_eq (P := ⟨0, false, true, 0⟩) (Q := ⟨0, false, t, 0⟩) (b := b.1)
    obtain ⟨_, _, _, g4, g5, g6⟩ := lf_eq (P := ⟨0, false, t, 0⟩) (Q := ⟨0, false, t, 0⟩) (b := b.1)
    refine ⟨_, _, dlR_t NprR DsR a w x y z u0 u1 u2 t, ob_a ?_ (tl (by rw [eA]; exact f5) (by rw [eB]; exact g5))⟩
    rw [eA, eB]
    unfold dlO
    rw [f1, f2, f3, f4, f6, g4, g6]
    exact ob_c (eqV3_r _) (ob_c (eqF3_r _) (ob_c (beq_t rfl) (ob_c rfl (ob_c rfl (ob_c rfl (ob_c rfl ob_n))))))
  · rw [decide_eq_false gb, cond_false] at eA eB q1
    have r : b.2 = 10 ∨ b.2 = 11 := by
      rcases q1 with h | h
      · exact absurd h gb
      · exact h
    have n0 : ((dlA NprR DsR a x y z u0 u1 u2).e != 0) = true := by rw [eA]; show (b.2 != 0) = true; simpa using gb
    have n1 : ((dlA NprR DsR a x y z u0 u1 u2).e != (dlB NprR DsR a w x y z u0 u1 u2).e) = false := by rw [eA, eB]; show (b.2 != b.2) = false; simp
    have hh := tl (s := false) (t := false) (by rw [eA]; rfl) (by rw [eB]; rfl)
    rcases r with r | r
    · refine ⟨_, _, dlR_o NprR DsR a w x y z u0 u1 u2, ob_c ?_ (ob_c ?_ (ob_a (ob_c n0 (ob_c n1 ob_n)) hh))⟩
      · rw [eA]; show (b.2 == 10) = true; rw [r]; rfl
      · rw [eA]; show (b.2 == 11) = false; rw [r]; rfl
    · refine ⟨_, _, dlR_z NprR DsR a w x y z u0 u1 u2, ob_c ?_ (ob_a (ob_c n0 (ob_c n1 ob_n)) hh)⟩
      rw [eA]; show (b.2 == 11) = true; rw [r]; rfl
theorem u64_w {n : Int} (h : (Lit.int .u64 n).wf = true) : u64P n := by
  have : 0 ≤ n ∧ n ≤ 18446744073709551615 := by simpa [Lit.wf, IntKind.min, IntKind.max, IntKind.signed, IntKind.bits] using h
  exact this
theorem drawLeaf_row (x0 x1 x2 x3 x4 x5 x6 x7 w x y z u0 u1 u2 : Int) (h0 : (Lit.int .u32 x0).wf = true) (h1 : (Lit.int .u32 x1).wf = true) (h2 : (Lit.int .u32 x2).wf = true) (h3 : (Lit.int .u32 x3).wf = true) (h4 : (Lit.int .u32 x4).wf = true) (h5 : (Lit.int .u32 x5).wf = true) (h6 : (Lit.int .u32 x6).wf = true) (h7 : (Lit.int .u32 x7).wf = true) (h8 : (Lit.int .u32 w).wf = true) (h9 : (Lit.int .u32 x).wf = true) (h10 : (Lit.int .u32 y).wf = true) (h11 : (Lit.int .u32 z).wf = true) (h12 : (Lit.int .u64 u0).wf = true) (h13 : (Lit.int .u64 u1).wf = true) (h14 : (Lit.int .u64 u2).wf = true) (W : World) :
    Calls Tryz.prog 7 #[.agg #[.int .u32 x0, .int .u32 x1, .int .u32 x2, .int .u32 x3, .int .u32 x4, .int .u32 x5, .int .u32 x6, .int .u32 x7], .int .u32 w, .agg #[.int .u32 x, .int .u32 y, .int .u32 z], .agg #[.int .u64 u0, .int .u64 u1, .int .u64 u2]] W fun e w' => e = .returned (.bool true) ∧ Below W.heap.size W w' := by
  obtain ⟨d, ob, hr, ho⟩ := dl_all (a := ⟨x0, x1, x2, x3, x4, x5, x6, x7⟩) (u8_mk h0 h1 h2 h3 h4 h5 h6 h7) (u32_w h8) (u32_w h9) (u32_w h10) (u32_w h11) (u64_w h12) (u64_w h13) (u64_w h14)
  exact calls_of_val goodG oracleLfd 120 hr ho rfl rfl W
end Go.Proofs.YtgjohjgmlleebaaGreat
